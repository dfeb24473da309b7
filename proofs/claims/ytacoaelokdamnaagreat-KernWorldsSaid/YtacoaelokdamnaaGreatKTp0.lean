import Derived.Test.YtacoaelokdamnaaGreatTab
set_option linter.all false
set_option maxRecDepth 100000
namespace Go.Mini.KT

/-- bailey/baileylaw20.KernNames -/
def F4 : FnIR := ⟨20,
 .seq (
 .reg [
 ⟨some 0, none, .mov (.k (.s (.bool false)))⟩] []) (
 .seq (
 .reg [
 ⟨some 1, none, .call false 18 0 []⟩,
 ⟨some 2, none, .mov (.t 1)⟩,
 ⟨some 3, none, .pick (.t 2) (.k (.s (.bool true))) (.k (.s (.bool false)))⟩,
 ⟨some 4, none, .mov (.t 3)⟩,
 ⟨some 5, none, .pick (.t 4) (.k (.s (.bool true))) (.k (.s (.bool false)))⟩,
 ⟨some 6, none, .mov (.t 5)⟩,
 ⟨some 7, none, .pick (.t 6) (.k (.s (.bool true))) (.k (.s (.bool false)))⟩,
 ⟨some 8, none, .mov (.t 7)⟩,
 ⟨some 9, none, .pick (.t 8) (.k (.s (.bool true))) (.k (.s (.bool false)))⟩,
 ⟨some 10, none, .mov (.t 9)⟩,
 ⟨some 11, none, .pick (.t 10) (.k (.s (.bool true))) (.k (.s (.bool false)))⟩,
 ⟨some 12, none, .mov (.t 11)⟩,
 ⟨some 13, none, .pick (.t 12) (.k (.s (.bool true))) (.k (.s (.bool false)))⟩,
 ⟨some 14, none, .mov (.t 13)⟩,
 ⟨some 15, none, .pick (.t 14) (.k (.s (.bool true))) (.k (.s (.bool false)))⟩,
 ⟨some 16, none, .mov (.t 15)⟩,
 ⟨some 17, none, .pick (.t 16) (.k (.s (.bool true))) (.k (.s (.bool false)))⟩,
 ⟨some 18, none, .mov (.t 17)⟩,
 ⟨some 19, none, .pick (.t 18) (.k (.s (.bool true))) (.k (.s (.bool false)))⟩,
 ⟨some 0, none, .mov (.t 19)⟩] [0]) (
 .ret)),
 [.t 0], none⟩

/-- bailey/baileylaw20.KernWorlds -/
def F5 : FnIR := ⟨36,
 .seq (
 .reg [
 ⟨some 2, none, .mov (.k (.s (.bool false)))⟩] [0]) (
 .seq (
 .reg [
 ⟨some 8, none, .mov (.t 0)⟩,
 ⟨some 9, none, .call false 19 0 [.t 8]⟩,
 ⟨some 7, none, .mov (.t 9)⟩,
 ⟨some 10, none, .ext (.t 7) 0⟩,
 ⟨some 11, none, .ext (.t 7) 1⟩,
 ⟨some 3, none, .mov (.t 10)⟩,
 ⟨some 4, none, .mov (.t 11)⟩] [0, 3, 4]) (
 .seq (
 .reg [
 ⟨some 13, none, .mov (.t 0)⟩,
 ⟨some 14, none, .call false 20 0 [.t 13]⟩,
 ⟨some 12, none, .mov (.t 14)⟩,
 ⟨some 15, none, .ext (.t 12) 0⟩,
 ⟨some 16, none, .ext (.t 12) 1⟩,
 ⟨some 5, none, .mov (.t 15)⟩,
 ⟨some 6, none, .mov (.t 16)⟩] [3, 4, 5, 6]) (
 .seq (
 .reg [
 ⟨some 17, none, .call false 18 0 []⟩,
 ⟨some 18, none, .mov (.t 17)⟩,
 ⟨some 19, some (18, true), .mov (.t 3)⟩,
 ⟨some 20, some (18, true), .mov (.t 5)⟩,
 ⟨some 21, some (18, true), .call false 14 0 [.t 19, .t 20]⟩,
 ⟨some 22, none, .pick (.t 18) (.t 21) (.k (.s (.bool false)))⟩,
 ⟨some 23, none, .mov (.t 22)⟩,
 ⟨some 24, some (23, true), .mov (.t 4)⟩,
 ⟨some 25, some (23, true), .mov (.t 6)⟩,
 ⟨some 26, some (23, true), .bin .eql (.t 24) (.t 25)⟩,
 ⟨some 27, none, .pick (.t 23) (.t 26) (.k (.s (.bool false)))⟩,
 ⟨some 28, none, .mov (.t 27)⟩,
 ⟨some 29, some (28, true), .mov (.t 4)⟩,
 ⟨some 30, some (28, true), .bin .neq (.t 29) (.k (.s (.int .i64 0)))⟩,
 ⟨some 31, some (28, true), .mov (.t 30)⟩,
 ⟨some 32, some (31, false), .mov (.t 3)⟩,
 ⟨some 33, some (31, false), .call false 21 0 [.t 32]⟩,
 ⟨some 34, some (28, true), .pick (.t 31) (.k (.s (.bool true))) (.t 33)⟩,
 ⟨some 35, none, .pick (.t 28) (.t 34) (.k (.s (.bool false)))⟩,
 ⟨some 2, none, .mov (.t 35)⟩] [2]) (
 .ret)))),
 [.t 2], none⟩

/-- bailey/baileylaw20.KernRuns -/
def F6 : FnIR := ⟨84,
 .seq (
 .reg [
 ⟨some 6, none, .mov (.k (.s (.bool false)))⟩] [0, 1, 2]) (
 .seq (
 .seq (
 .reg [
 ⟨some 17, none, .call false 18 0 []⟩,
 ⟨some 18, none, .un .not (.t 17)⟩] [0, 1, 2, 18]) (
 .cond (.t 18) (
 .seq (
 .reg [
 ⟨some 6, none, .mov (.k (.s (.bool false)))⟩] [6]) (
 .ret)) (
 .skip))) (
 .seq (
 .reg [
 ⟨some 20, none, .mov (.t 0)⟩,
 ⟨some 21, none, .call false 19 0 [.t 20]⟩,
 ⟨some 19, none, .mov (.t 21)⟩,
 ⟨some 22, none, .ext (.t 19) 0⟩,
 ⟨some 23, none, .ext (.t 19) 1⟩,
 ⟨some 7, none, .mov (.t 22)⟩,
 ⟨some 8, none, .mov (.t 23)⟩] [0, 1, 2, 7, 8]) (
 .seq (
 .reg [
 ⟨some 25, none, .mov (.t 0)⟩,
 ⟨some 26, none, .call false 20 0 [.t 25]⟩,
 ⟨some 24, none, .mov (.t 26)⟩,
 ⟨some 27, none, .ext (.t 24) 0⟩,
 ⟨some 28, none, .ext (.t 24) 1⟩,
 ⟨some 9, none, .mov (.t 27)⟩,
 ⟨some 10, none, .mov (.t 28)⟩] [1, 2, 7, 8, 9]) (
 .seq (
 .seq (
 .reg [
 ⟨some 29, none, .mov (.t 8)⟩,
 ⟨some 30, none, .bin .neq (.t 29) (.k (.s (.int .i64 0)))⟩,
 ⟨some 31, none, .mov (.t 30)⟩,
 ⟨some 32, some (31, false), .mov (.t 2)⟩,
 ⟨some 33, some (31, false), .len (.t 32)⟩,
 ⟨some 34, some (31, false), .bin .gtr (.t 33) (.k (.s (.int .i64 60)))⟩,
 ⟨some 35, none, .pick (.t 31) (.k (.s (.bool true))) (.t 34)⟩,
 ⟨some 36, none, .mov (.t 35)⟩,
 ⟨some 37, some (36, false), .mov (.t 1)⟩,
 ⟨some 38, some (36, false), .bin .lss (.t 37) (.k (.s (.int .i64 0)))⟩,
 ⟨some 39, none, .pick (.t 36) (.k (.s (.bool true))) (.t 38)⟩,
 ⟨some 40, none, .mov (.t 39)⟩,
 ⟨some 41, some (40, false), .mov (.t 1)⟩,
 ⟨some 42, some (40, false), .bin .gtr (.t 41) (.k (.s (.int .i64 255)))⟩,
 ⟨some 43, none, .pick (.t 40) (.k (.s (.bool true))) (.t 42)⟩] [1, 2, 7, 9, 43]) (
 .cond (.t 43) (
 .seq (
 .reg [
 ⟨some 6, none, .mov (.k (.s (.bool true)))⟩] [6]) (
 .ret)) (
 .skip))) (
 .seq (
 .seq (
 .reg [
 ⟨some 44, none, .mov (.t 2)⟩,
 ⟨some 45, none, .len (.t 44)⟩,
 ⟨some 46, none, .mov (.k (.s (.int .i64 0)))⟩] [1, 7, 9, 44, 45, 46]) (
 .block 0 (
 .loop (
 .seq (
 .reg [
 ⟨some 47, none, .bin .lss (.t 46) (.t 45)⟩] [1, 7, 9, 44, 45, 46, 47]) (
 .seq (
 .cond (.t 47) (
 .skip) (
 .exit 0)) (
 .seq (
 .block 1 (
 .seq (
 .reg [
 ⟨some 48, none, .ixa (.t 44) (.t 46) 13 none⟩,
 ⟨some 49, none, .load (.t 48) 13 true⟩,
 ⟨some 12, none, .alloc [.s (.int .u64 0), .s (.int .i64 0), .s (.int .i64 0), .s (.int .i64 0), .s (.int .u64 0), .s (.int .u64 0), .s (.int .u64 0), .s (.int .i64 0), .lit .nil [], .s (.int .i64 0), .lit .nil [], .lit .nil [], .s (.int .u64 0)]⟩,
 ⟨none, none, .store (.t 12) (.t 49) 13⟩] [1, 7, 9, 12, 44, 45, 46]) (
 .seq (
 .reg [
 ⟨some 51, none, .mov (.t 7)⟩,
 ⟨some 52, none, .mov (.t 1)⟩,
 ⟨some 53, none, .fad (.t 12) 0⟩,
 ⟨some 54, none, .load (.t 53) 1 false⟩,
 ⟨some 55, none, .fad (.t 12) 1⟩,
 ⟨some 56, none, .load (.t 55) 12 true⟩,
 ⟨some 57, none, .call false 22 0 [.t 51, .t 52, .t 54, .t 56]⟩,
 ⟨some 50, none, .mov (.t 57)⟩,
 ⟨some 58, none, .ext (.t 50) 0⟩,
 ⟨some 59, none, .ext (.t 50) 1⟩,
 ⟨some 14, none, .alloc [.s (.int .i64 0), .s (.int .u64 0), .lit .nil [], .lit .nil [], .s (.int .i64 0)]⟩,
 ⟨some 13, none, .mov (.t 58)⟩,
 ⟨none, none, .store (.t 14) (.t 59) 5⟩] [1, 9, 12, 13, 14, 44, 45, 46]) (
 .seq (
 .reg [
 ⟨some 61, none, .mov (.t 9)⟩,
 ⟨some 62, none, .mov (.t 1)⟩,
 ⟨some 63, none, .fad (.t 12) 0⟩,
 ⟨some 64, none, .load (.t 63) 1 false⟩,
 ⟨some 65, none, .fad (.t 12) 1⟩,
 ⟨some 66, none, .load (.t 65) 12 true⟩,
 ⟨some 67, none, .call false 23 0 [.t 61, .t 62, .t 64, .t 66]⟩,
 ⟨some 60, none, .mov (.t 67)⟩,
 ⟨some 68, none, .ext (.t 60) 0⟩,
 ⟨some 69, none, .ext (.t 60) 1⟩,
 ⟨some 16, none, .alloc [.s (.int .i64 0), .s (.int .u64 0), .lit .nil [], .lit .nil [], .s (.int .i64 0)]⟩,
 ⟨some 15, none, .mov (.t 68)⟩,
 ⟨none, none, .store (.t 16) (.t 69) 5⟩] [1, 13, 14, 15, 16, 44, 45, 46]) (
 .seq (
 .seq (
 .reg [
 ⟨some 70, none, .load (.t 14) 5 true⟩,
 ⟨some 71, none, .load (.t 16) 5 true⟩,
 ⟨some 72, none, .call false 24 0 [.t 70, .t 71]⟩,
 ⟨some 73, none, .un .not (.t 72)⟩] [1, 13, 15, 44, 45, 46, 73]) (
 .cond (.t 73) (
 .seq (
 .reg [
 ⟨some 6, none, .mov (.k (.s (.bool false)))⟩] [6]) (
 .ret)) (
 .skip))) (
 .seq (
 .reg [
 ⟨some 74, none, .mov (.t 13)⟩,
 ⟨some 7, none, .mov (.t 74)⟩] [1, 7, 15, 44, 45, 46]) (
 .reg [
 ⟨some 75, none, .mov (.t 15)⟩,
 ⟨some 9, none, .mov (.t 75)⟩] [1, 7, 9, 44, 45, 46]))))))) (
 .reg [
 ⟨some 76, none, .bin .add (.t 46) (.k (.s (.int .i64 1)))⟩,
 ⟨some 46, none, .mov (.t 76)⟩] [1, 7, 9, 44, 45, 46]))))))) (
 .seq (
 .reg [
 ⟨some 77, none, .mov (.t 7)⟩,
 ⟨some 78, none, .mov (.t 9)⟩,
 ⟨some 79, none, .call false 14 0 [.t 77, .t 78]⟩,
 ⟨some 80, none, .mov (.t 79)⟩,
 ⟨some 81, some (80, true), .mov (.t 7)⟩,
 ⟨some 82, some (80, true), .call false 21 0 [.t 81]⟩,
 ⟨some 83, none, .pick (.t 80) (.t 82) (.k (.s (.bool false)))⟩,
 ⟨some 6, none, .mov (.t 83)⟩] [6]) (
 .ret))))))),
 [.t 6], none⟩

/-- bailey/baileylaw20.KernFails -/
def F7 : FnIR := ⟨53,
 .seq (
 .reg [
 ⟨some 5, none, .bxl (.t 2)⟩,
 ⟨some 6, none, .mov (.k (.s (.bool false)))⟩] [0, 1, 5]) (
 .seq (
 .seq (
 .reg [
 ⟨some 9, none, .call false 18 0 []⟩,
 ⟨some 10, none, .un .not (.t 9)⟩] [0, 1, 5, 10]) (
 .cond (.t 10) (
 .seq (
 .reg [
 ⟨some 6, none, .mov (.k (.s (.bool false)))⟩] [6]) (
 .ret)) (
 .skip))) (
 .seq (
 .seq (
 .reg [
 ⟨some 11, none, .mov (.t 0)⟩,
 ⟨some 12, none, .len (.t 11)⟩,
 ⟨some 13, none, .bin .gtr (.t 12) (.k (.s (.int .i64 60)))⟩,
 ⟨some 14, none, .mov (.t 13)⟩,
 ⟨some 15, some (14, false), .mov (.t 0)⟩,
 ⟨some 16, some (14, false), .call false 21 0 [.t 15]⟩,
 ⟨some 17, some (14, false), .un .not (.t 16)⟩,
 ⟨some 18, none, .pick (.t 14) (.k (.s (.bool true))) (.t 17)⟩] [0, 1, 5, 18]) (
 .cond (.t 18) (
 .seq (
 .reg [
 ⟨some 6, none, .mov (.k (.s (.bool true)))⟩] [6]) (
 .ret)) (
 .skip))) (
 .seq (
 .drw [
 ⟨some 20, none, .mov (.t 0)⟩,
 ⟨some 21, none, .call false 12 0 [.t 20]⟩,
 ⟨some 22, none, .mov (.t 1)⟩,
 ⟨some 23, none, .load (.t 5) 12 true⟩,
 ⟨some 24, none, .call false 22 0 [.t 21, .k (.s (.int .i64 1)), .t 22, .t 23]⟩,
 ⟨some 19, none, .mov (.t 24)⟩,
 ⟨some 25, none, .ext (.t 19) 0⟩,
 ⟨some 26, none, .ext (.t 19) 1⟩,
 ⟨some 8, none, .alloc [.s (.int .i64 0), .s (.int .u64 0), .lit .nil [], .lit .nil [], .s (.int .i64 0)]⟩,
 ⟨some 7, none, .mov (.t 25)⟩,
 ⟨none, none, .store (.t 8) (.t 26) 5⟩] [] [] [0, 7, 8]) (
 .seq (
 .seq (
 .reg [
 ⟨some 27, none, .fad (.t 8) 0⟩,
 ⟨some 28, none, .load (.t 27) 1 false⟩,
 ⟨some 29, none, .bin .eql (.t 28) (.k (.s (.int .i64 0)))⟩] [0, 7, 8, 29]) (
 .cond (.t 29) (
 .seq (
 .reg [
 ⟨some 6, none, .mov (.k (.s (.bool true)))⟩] [6]) (
 .ret)) (
 .skip))) (
 .seq (
 .reg [
 ⟨some 30, none, .fad (.t 8) 1⟩,
 ⟨some 31, none, .load (.t 30) 1 false⟩,
 ⟨some 32, none, .bin .eql (.t 31) (.k (.s (.int .u64 0)))⟩,
 ⟨some 33, none, .mov (.t 32)⟩,
 ⟨some 34, some (33, true), .fad (.t 8) 2⟩,
 ⟨some 35, some (33, true), .load (.t 34) 1 false⟩,
 ⟨some 36, some (33, true), .len (.t 35)⟩,
 ⟨some 37, some (33, true), .fad (.t 8) 3⟩,
 ⟨some 38, some (33, true), .load (.t 37) 1 false⟩,
 ⟨some 39, some (33, true), .len (.t 38)⟩,
 ⟨some 40, some (33, true), .bin .add (.t 36) (.t 39)⟩,
 ⟨some 41, some (33, true), .bin .eql (.t 40) (.k (.s (.int .i64 0)))⟩,
 ⟨some 42, none, .pick (.t 33) (.t 41) (.k (.s (.bool false)))⟩,
 ⟨some 43, none, .mov (.t 42)⟩,
 ⟨some 44, some (43, true), .fad (.t 8) 4⟩,
 ⟨some 45, some (43, true), .load (.t 44) 1 false⟩,
 ⟨some 46, some (43, true), .bin .eql (.t 45) (.k (.s (.int .i64 0)))⟩,
 ⟨some 47, none, .pick (.t 43) (.t 46) (.k (.s (.bool false)))⟩,
 ⟨some 48, none, .mov (.t 47)⟩,
 ⟨some 49, some (48, true), .mov (.t 7)⟩,
 ⟨some 50, some (48, true), .mov (.t 0)⟩,
 ⟨some 51, some (48, true), .call false 14 0 [.t 49, .t 50]⟩,
 ⟨some 52, none, .pick (.t 48) (.t 51) (.k (.s (.bool false)))⟩,
 ⟨some 6, none, .mov (.t 52)⟩] [6]) (
 .ret)))))),
 [.t 6], none⟩

/-- bailey/baileylaw20.KernFixed -/
def F8 : FnIR := ⟨92,
 .seq (
 .reg [
 ⟨some 5, none, .bxl (.t 2)⟩,
 ⟨some 6, none, .mov (.k (.s (.bool false)))⟩] [0, 1, 5]) (
 .seq (
 .seq (
 .reg [
 ⟨some 14, none, .call false 18 0 []⟩,
 ⟨some 15, none, .un .not (.t 14)⟩] [0, 1, 5, 15]) (
 .cond (.t 15) (
 .seq (
 .reg [
 ⟨some 6, none, .mov (.k (.s (.bool false)))⟩] [6]) (
 .ret)) (
 .skip))) (
 .seq (
 .seq (
 .reg [
 ⟨some 16, none, .mov (.t 0)⟩,
 ⟨some 17, none, .len (.t 16)⟩,
 ⟨some 18, none, .bin .gtr (.t 17) (.k (.s (.int .i64 60)))⟩,
 ⟨some 19, none, .mov (.t 18)⟩,
 ⟨some 20, some (19, false), .mov (.t 0)⟩,
 ⟨some 21, some (19, false), .call false 21 0 [.t 20]⟩,
 ⟨some 22, some (19, false), .un .not (.t 21)⟩,
 ⟨some 23, none, .pick (.t 19) (.k (.s (.bool true))) (.t 22)⟩] [0, 1, 5, 23]) (
 .cond (.t 23) (
 .seq (
 .reg [
 ⟨some 6, none, .mov (.k (.s (.bool true)))⟩] [6]) (
 .ret)) (
 .skip))) (
 .seq (
 .drw [
 ⟨some 25, none, .mov (.t 0)⟩,
 ⟨some 26, none, .call false 12 0 [.t 25]⟩,
 ⟨some 27, none, .mov (.t 1)⟩,
 ⟨some 28, none, .load (.t 5) 12 true⟩,
 ⟨some 29, none, .call false 22 0 [.t 26, .k (.s (.int .i64 1)), .t 27, .t 28]⟩,
 ⟨some 24, none, .mov (.t 29)⟩,
 ⟨some 30, none, .ext (.t 24) 0⟩,
 ⟨some 31, none, .ext (.t 24) 1⟩,
 ⟨some 8, none, .alloc [.s (.int .i64 0), .s (.int .u64 0), .lit .nil [], .lit .nil [], .s (.int .i64 0)]⟩,
 ⟨some 7, none, .mov (.t 30)⟩,
 ⟨none, none, .store (.t 8) (.t 31) 5⟩] [] [] [0, 1, 5, 7]) (
 .seq (
 .reg [
 ⟨some 9, none, .mov (.k (.s (.int .i64 0)))⟩] [0, 1, 5, 7, 9]) (
 .seq (
 .seq (
 .reg [
 ⟨some 32, none, .mov (.t 7)⟩,
 ⟨some 33, none, .len (.t 32)⟩,
 ⟨some 34, none, .mov (.k (.s (.int .i64 0)))⟩] [0, 1, 5, 9, 32, 33, 34]) (
 .block 0 (
 .loop (
 .seq (
 .reg [
 ⟨some 35, none, .bin .lss (.t 34) (.t 33)⟩] [0, 1, 5, 9, 32, 33, 34, 35]) (
 .seq (
 .cond (.t 35) (
 .skip) (
 .exit 0)) (
 .seq (
 .block 1 (
 .seq (
 .reg [
 ⟨some 36, none, .ixa (.t 32) (.t 34) 26 none⟩,
 ⟨some 37, none, .load (.t 36) 26 true⟩,
 ⟨some 11, none, .alloc [.s (.int .u64 0), .s (.int .i64 0), .s (.int .i64 0), .lit .nil [], .s (.int .i64 0), .lit .nil [], .s (.int .i64 0), .s (.int .i64 0), .lit .nil [], .lit .nil [], .s (.int .u64 0), .s (.int .u64 0), .s (.int .u64 0), .s (.int .u64 0), .s (.int .i64 0), .s (.int .i64 0), .s (.bool false), .s (.int .u64 0), .s (.int .u64 0), .s (.int .u64 0), .s (.int .u64 0), .s (.int .u64 0), .s (.int .u64 0), .s (.int .u64 0), .s (.int .u64 0), .s (.int .u64 0)]⟩,
 ⟨none, none, .store (.t 11) (.t 37) 26⟩] [0, 1, 5, 9, 11, 32, 33, 34]) (
 .seq (
 .reg [
 ⟨some 39, none, .mov (.t 0)⟩,
 ⟨some 40, none, .fad (.t 11) 0⟩,
 ⟨some 41, none, .load (.t 40) 1 false⟩,
 ⟨some 42, none, .call false 25 0 [.t 39, .t 41]⟩,
 ⟨some 38, none, .mov (.t 42)⟩,
 ⟨some 43, none, .ext (.t 38) 0⟩,
 ⟨some 44, none, .ext (.t 38) 1⟩,
 ⟨some 12, none, .alloc [.s (.int .u64 0), .s (.int .i64 0), .s (.int .i64 0), .lit .nil [], .s (.int .i64 0), .lit .nil [], .s (.int .i64 0), .s (.int .i64 0), .lit .nil [], .lit .nil [], .s (.int .u64 0), .s (.int .u64 0), .s (.int .u64 0), .s (.int .u64 0), .s (.int .i64 0), .s (.int .i64 0), .s (.bool false), .s (.int .u64 0), .s (.int .u64 0), .s (.int .u64 0), .s (.int .u64 0), .s (.int .u64 0), .s (.int .u64 0), .s (.int .u64 0), .s (.int .u64 0), .s (.int .u64 0)]⟩,
 ⟨none, none, .store (.t 12) (.t 43) 26⟩,
 ⟨some 13, none, .mov (.t 44)⟩] [0, 1, 5, 9, 11, 12, 13, 32, 33, 34]) (
 .seq (
 .seq (
 .reg [
 ⟨some 45, none, .mov (.t 13)⟩,
 ⟨some 46, none, .un .not (.t 45)⟩] [0, 1, 5, 9, 11, 12, 32, 33, 34, 46]) (
 .cond (.t 46) (
 .seq (
 .seq (
 .reg [
 ⟨some 47, none, .fad (.t 5) 0⟩,
 ⟨some 48, none, .load (.t 47) 1 false⟩,
 ⟨some 49, none, .bin .gtr (.t 48) (.k (.s (.int .i64 5)))⟩] [0, 1, 5, 9, 32, 33, 34, 49]) (
 .cond (.t 49) (
 .seq (
 .reg [
 ⟨some 6, none, .mov (.k (.s (.bool false)))⟩] [6]) (
 .ret)) (
 .skip))) (
 .exit 1)) (
 .skip))) (
 .seq (
 .seq (
 .reg [
 ⟨some 50, none, .fad (.t 12) 1⟩,
 ⟨some 51, none, .load (.t 50) 1 false⟩,
 ⟨some 52, none, .fad (.t 11) 1⟩,
 ⟨some 53, none, .load (.t 52) 1 false⟩,
 ⟨some 54, none, .bin .neq (.t 51) (.t 53)⟩,
 ⟨some 55, none, .mov (.t 54)⟩,
 ⟨some 56, some (55, false), .fad (.t 12) 6⟩,
 ⟨some 57, some (55, false), .load (.t 56) 1 false⟩,
 ⟨some 58, some (55, false), .fad (.t 11) 6⟩,
 ⟨some 59, some (55, false), .load (.t 58) 1 false⟩,
 ⟨some 60, some (55, false), .bin .neq (.t 57) (.t 59)⟩,
 ⟨some 61, none, .pick (.t 55) (.k (.s (.bool true))) (.t 60)⟩,
 ⟨some 62, none, .mov (.t 61)⟩,
 ⟨some 63, some (62, false), .fad (.t 11) 0⟩,
 ⟨some 64, some (62, false), .load (.t 63) 1 false⟩,
 ⟨some 65, some (62, false), .mov (.t 1)⟩,
 ⟨some 66, some (62, false), .bin .neq (.t 64) (.t 65)⟩,
 ⟨some 67, some (62, false), .mov (.t 66)⟩,
 ⟨some 68, some (67, true), .fad (.t 12) 2⟩,
 ⟨some 69, some (67, true), .load (.t 68) 2 true⟩,
 ⟨some 70, some (67, true), .fad (.t 11) 2⟩,
 ⟨some 71, some (67, true), .load (.t 70) 2 true⟩,
 ⟨some 72, some (67, true), .call false 26 0 [.t 69, .t 71]⟩,
 ⟨some 73, some (67, true), .mov (.t 72)⟩,
 ⟨some 74, some (73, true), .fad (.t 12) 4⟩,
 ⟨some 75, some (73, true), .load (.t 74) 2 true⟩,
 ⟨some 76, some (73, true), .fad (.t 11) 4⟩,
 ⟨some 77, some (73, true), .load (.t 76) 2 true⟩,
 ⟨some 78, some (73, true), .call false 26 0 [.t 75, .t 77]⟩,
 ⟨some 79, some (67, true), .pick (.t 73) (.t 78) (.k (.s (.bool false)))⟩,
 ⟨some 80, some (67, true), .un .not (.t 79)⟩,
 ⟨some 81, some (62, false), .pick (.t 67) (.t 80) (.k (.s (.bool false)))⟩,
 ⟨some 82, none, .pick (.t 62) (.k (.s (.bool true))) (.t 81)⟩] [0, 1, 5, 9, 11, 12, 32, 33, 34, 82]) (
 .cond (.t 82) (
 .seq (
 .reg [
 ⟨some 6, none, .mov (.k (.s (.bool false)))⟩] [6]) (
 .ret)) (
 .skip))) (
 .seq (
 .reg [
 ⟨some 83, none, .load (.t 12) 26 true⟩,
 ⟨some 84, none, .load (.t 11) 26 true⟩,
 ⟨some 85, none, .call false 27 0 [.t 83, .t 84]⟩,
 ⟨some 86, none, .un .not (.t 85)⟩] [0, 1, 5, 9, 32, 33, 34, 86]) (
 .cond (.t 86) (
 .reg [
 ⟨some 87, none, .mov (.t 9)⟩,
 ⟨some 88, none, .bin .add (.t 87) (.k (.s (.int .i64 1)))⟩,
 ⟨some 9, none, .mov (.t 88)⟩] [0, 1, 5, 9, 32, 33, 34]) (
 .skip)))))))) (
 .reg [
 ⟨some 89, none, .bin .add (.t 34) (.k (.s (.int .i64 1)))⟩,
 ⟨some 34, none, .mov (.t 89)⟩] [0, 1, 5, 9, 32, 33, 34]))))))) (
 .seq (
 .reg [
 ⟨some 90, none, .mov (.t 9)⟩,
 ⟨some 91, none, .bin .leq (.t 90) (.k (.s (.int .i64 1)))⟩,
 ⟨some 6, none, .mov (.t 91)⟩] [6]) (
 .ret))))))),
 [.t 6], none⟩

/-- bailey/baileylaw20.KernReads -/
def F9 : FnIR := ⟨124,
 .seq (
 .reg [
 ⟨some 5, none, .bxl (.t 2)⟩,
 ⟨some 6, none, .mov (.k (.s (.bool false)))⟩] [0, 1, 5]) (
 .seq (
 .seq (
 .reg [
 ⟨some 15, none, .call false 18 0 []⟩,
 ⟨some 16, none, .un .not (.t 15)⟩] [0, 1, 5, 16]) (
 .cond (.t 16) (
 .seq (
 .reg [
 ⟨some 6, none, .mov (.k (.s (.bool false)))⟩] [6]) (
 .ret)) (
 .skip))) (
 .seq (
 .seq (
 .reg [
 ⟨some 17, none, .mov (.t 0)⟩,
 ⟨some 18, none, .len (.t 17)⟩,
 ⟨some 19, none, .bin .gtr (.t 18) (.k (.s (.int .i64 60)))⟩,
 ⟨some 20, none, .mov (.t 19)⟩,
 ⟨some 21, some (20, false), .mov (.t 0)⟩,
 ⟨some 22, some (20, false), .call false 21 0 [.t 21]⟩,
 ⟨some 23, some (20, false), .un .not (.t 22)⟩,
 ⟨some 24, none, .pick (.t 20) (.k (.s (.bool true))) (.t 23)⟩,
 ⟨some 25, none, .mov (.t 24)⟩,
 ⟨some 26, some (25, false), .fad (.t 5) 0⟩,
 ⟨some 27, some (25, false), .load (.t 26) 1 false⟩,
 ⟨some 28, some (25, false), .bin .neq (.t 27) (.k (.s (.int .i64 7)))⟩,
 ⟨some 29, none, .pick (.t 25) (.k (.s (.bool true))) (.t 28)⟩] [0, 1, 5, 29]) (
 .cond (.t 29) (
 .seq (
 .reg [
 ⟨some 6, none, .mov (.k (.s (.bool true)))⟩] [6]) (
 .ret)) (
 .skip))) (
 .seq (
 .drw [
 ⟨some 31, none, .mov (.t 0)⟩,
 ⟨some 32, none, .call false 12 0 [.t 31]⟩,
 ⟨some 33, none, .mov (.t 1)⟩,
 ⟨some 34, none, .load (.t 5) 12 true⟩,
 ⟨some 35, none, .call false 22 0 [.t 32, .k (.s (.int .i64 1)), .t 33, .t 34]⟩,
 ⟨some 30, none, .mov (.t 35)⟩,
 ⟨some 36, none, .ext (.t 30) 0⟩,
 ⟨some 37, none, .ext (.t 30) 1⟩,
 ⟨some 8, none, .alloc [.s (.int .i64 0), .s (.int .u64 0), .lit .nil [], .lit .nil [], .s (.int .i64 0)]⟩,
 ⟨some 7, none, .mov (.t 36)⟩,
 ⟨none, none, .store (.t 8) (.t 37) 5⟩] [] [] [0, 1, 5, 7, 8]) (
 .seq (
 .seq (
 .reg [
 ⟨some 38, none, .fad (.t 8) 0⟩,
 ⟨some 39, none, .load (.t 38) 1 false⟩,
 ⟨some 40, none, .bin .neq (.t 39) (.k (.s (.int .i64 0)))⟩] [0, 1, 5, 7, 8, 40]) (
 .cond (.t 40) (
 .seq (
 .reg [
 ⟨some 6, none, .mov (.k (.s (.bool true)))⟩] [6]) (
 .ret)) (
 .skip))) (
 .seq (
 .reg [
 ⟨some 42, none, .mov (.t 0)⟩,
 ⟨some 43, none, .fad (.t 5) 4⟩,
 ⟨some 44, none, .load (.t 43) 1 false⟩,
 ⟨some 45, none, .call false 25 0 [.t 42, .t 44]⟩,
 ⟨some 41, none, .mov (.t 45)⟩,
 ⟨some 46, none, .ext (.t 41) 0⟩,
 ⟨some 47, none, .ext (.t 41) 1⟩,
 ⟨some 9, none, .alloc [.s (.int .u64 0), .s (.int .i64 0), .s (.int .i64 0), .lit .nil [], .s (.int .i64 0), .lit .nil [], .s (.int .i64 0), .s (.int .i64 0), .lit .nil [], .lit .nil [], .s (.int .u64 0), .s (.int .u64 0), .s (.int .u64 0), .s (.int .u64 0), .s (.int .i64 0), .s (.int .i64 0), .s (.bool false), .s (.int .u64 0), .s (.int .u64 0), .s (.int .u64 0), .s (.int .u64 0), .s (.int .u64 0), .s (.int .u64 0), .s (.int .u64 0), .s (.int .u64 0), .s (.int .u64 0)]⟩,
 ⟨none, none, .store (.t 9) (.t 46) 26⟩,
 ⟨some 10, none, .mov (.t 47)⟩] [1, 5, 7, 8, 9]) (
 .seq (
 .reg [
 ⟨some 49, none, .mov (.t 7)⟩,
 ⟨some 50, none, .mov (.t 1)⟩,
 ⟨some 51, none, .fad (.t 5) 3⟩,
 ⟨some 52, none, .load (.t 51) 1 false⟩,
 ⟨some 53, none, .fad (.t 5) 4⟩,
 ⟨some 54, none, .load (.t 53) 1 false⟩,
 ⟨some 55, none, .fad (.t 9) 9⟩,
 ⟨some 56, none, .load (.t 55) 1 false⟩,
 ⟨some 57, none, .len (.t 56)⟩,
 ⟨some 58, none, .build [.s (.int .i64 0), .s (.int .i64 0), .s (.int .i64 0), .s (.int .u64 0), .s (.int .u64 0), .s (.int .u64 0), .s (.int .i64 0), .lit .nil [], .s (.int .i64 0), .lit .nil [], .lit .nil [], .s (.int .u64 0)] [(0, 1, .k (.s (.int .i64 6))), (3, 1, .t 52), (4, 1, .t 54), (2, 1, .t 57)]⟩,
 ⟨some 59, none, .call false 22 0 [.t 49, .k (.s (.int .i64 1)), .t 50, .t 58]⟩,
 ⟨some 48, none, .mov (.t 59)⟩,
 ⟨some 60, none, .ext (.t 48) 0⟩,
 ⟨some 61, none, .ext (.t 48) 1⟩,
 ⟨some 12, none, .alloc [.s (.int .i64 0), .s (.int .u64 0), .lit .nil [], .lit .nil [], .s (.int .i64 0)]⟩,
 ⟨some 11, none, .mov (.t 60)⟩,
 ⟨none, none, .store (.t 12) (.t 61) 5⟩] [5, 8, 9, 12]) (
 .seq (
 .seq (
 .reg [
 ⟨some 62, none, .fad (.t 12) 0⟩,
 ⟨some 63, none, .load (.t 62) 1 false⟩,
 ⟨some 64, none, .bin .neq (.t 63) (.k (.s (.int .i64 0)))⟩,
 ⟨some 65, none, .mov (.t 64)⟩,
 ⟨some 66, some (65, false), .fad (.t 12) 2⟩,
 ⟨some 67, some (65, false), .load (.t 66) 1 false⟩,
 ⟨some 68, some (65, false), .len (.t 67)⟩,
 ⟨some 69, some (65, false), .fad (.t 9) 9⟩,
 ⟨some 70, some (65, false), .load (.t 69) 1 false⟩,
 ⟨some 71, some (65, false), .len (.t 70)⟩,
 ⟨some 72, some (65, false), .bin .neq (.t 68) (.t 71)⟩,
 ⟨some 73, none, .pick (.t 65) (.k (.s (.bool true))) (.t 72)⟩,
 ⟨some 74, none, .mov (.t 73)⟩,
 ⟨some 75, some (74, false), .fad (.t 8) 1⟩,
 ⟨some 76, some (74, false), .load (.t 75) 1 false⟩,
 ⟨some 77, some (74, false), .fad (.t 5) 10⟩,
 ⟨some 78, some (74, false), .load (.t 77) 1 false⟩,
 ⟨some 79, some (74, false), .len (.t 78)⟩,
 ⟨some 80, some (74, false), .cvi .u64 (.t 79)⟩,
 ⟨some 81, some (74, false), .bin .neq (.t 76) (.t 80)⟩,
 ⟨some 82, none, .pick (.t 74) (.k (.s (.bool true))) (.t 81)⟩] [5, 9, 12, 82]) (
 .cond (.t 82) (
 .seq (
 .reg [
 ⟨some 6, none, .mov (.k (.s (.bool false)))⟩] [6]) (
 .ret)) (
 .skip))) (
 .seq (
 .seq (
 .reg [
 ⟨some 83, none, .fad (.t 12) 2⟩,
 ⟨some 84, none, .load (.t 83) 1 false⟩,
 ⟨some 85, none, .len (.t 84)⟩,
 ⟨some 86, none, .mov (.k (.s (.int .i64 0)))⟩] [5, 9, 12, 85, 86]) (
 .block 0 (
 .loop (
 .seq (
 .reg [
 ⟨some 87, none, .bin .lss (.t 86) (.t 85)⟩] [5, 9, 12, 85, 86, 87]) (
 .seq (
 .cond (.t 87) (
 .skip) (
 .exit 0)) (
 .seq (
 .block 1 (
 .seq (
 .reg [
 ⟨some 88, none, .mov (.t 86)⟩,
 ⟨some 13, none, .mov (.t 88)⟩] [5, 9, 12, 13, 85, 86]) (
 .seq (
 .reg [
 ⟨some 89, none, .fad (.t 9) 9⟩,
 ⟨some 90, none, .load (.t 89) 1 false⟩,
 ⟨some 91, none, .mov (.t 13)⟩,
 ⟨some 92, none, .ixa (.t 90) (.t 91) 1 none⟩,
 ⟨some 93, none, .load (.t 92) 1 false⟩,
 ⟨some 14, none, .mov (.t 93)⟩] [5, 9, 12, 13, 14, 85, 86]) (
 .seq (
 .seq (
 .reg [
 ⟨some 94, none, .mov (.t 13)⟩,
 ⟨some 95, none, .fad (.t 5) 1⟩,
 ⟨some 96, none, .load (.t 95) 1 false⟩,
 ⟨some 97, none, .bin .geq (.t 94) (.t 96)⟩,
 ⟨some 98, none, .mov (.t 97)⟩,
 ⟨some 99, some (98, true), .mov (.t 13)⟩,
 ⟨some 100, some (98, true), .fad (.t 5) 1⟩,
 ⟨some 101, some (98, true), .load (.t 100) 1 false⟩,
 ⟨some 102, some (98, true), .bin .sub (.t 99) (.t 101)⟩,
 ⟨some 103, some (98, true), .fad (.t 5) 10⟩,
 ⟨some 104, some (98, true), .load (.t 103) 1 false⟩,
 ⟨some 105, some (98, true), .len (.t 104)⟩,
 ⟨some 106, some (98, true), .bin .lss (.t 102) (.t 105)⟩,
 ⟨some 107, none, .pick (.t 98) (.t 106) (.k (.s (.bool false)))⟩] [5, 9, 12, 13, 14, 85, 86, 107]) (
 .cond (.t 107) (
 .reg [
 ⟨some 108, none, .fad (.t 5) 10⟩,
 ⟨some 109, none, .load (.t 108) 1 false⟩,
 ⟨some 110, none, .mov (.t 13)⟩,
 ⟨some 111, none, .fad (.t 5) 1⟩,
 ⟨some 112, none, .load (.t 111) 1 false⟩,
 ⟨some 113, none, .bin .sub (.t 110) (.t 112)⟩,
 ⟨some 114, none, .ixa (.t 109) (.t 113) 1 none⟩,
 ⟨some 115, none, .load (.t 114) 1 false⟩,
 ⟨some 14, none, .mov (.t 115)⟩] [5, 9, 12, 13, 14, 85, 86]) (
 .skip))) (
 .seq (
 .reg [
 ⟨some 116, none, .fad (.t 12) 2⟩,
 ⟨some 117, none, .load (.t 116) 1 false⟩,
 ⟨some 118, none, .mov (.t 13)⟩,
 ⟨some 119, none, .ixa (.t 117) (.t 118) 1 none⟩,
 ⟨some 120, none, .load (.t 119) 1 false⟩,
 ⟨some 121, none, .mov (.t 14)⟩,
 ⟨some 122, none, .bin .neq (.t 120) (.t 121)⟩] [5, 9, 12, 85, 86, 122]) (
 .cond (.t 122) (
 .seq (
 .reg [
 ⟨some 6, none, .mov (.k (.s (.bool false)))⟩] [6]) (
 .ret)) (
 .skip))))))) (
 .reg [
 ⟨some 123, none, .bin .add (.t 86) (.k (.s (.int .i64 1)))⟩,
 ⟨some 86, none, .mov (.t 123)⟩] [5, 9, 12, 85, 86]))))))) (
 .seq (
 .reg [
 ⟨some 6, none, .mov (.k (.s (.bool true)))⟩] [6]) (
 .ret)))))))))),
 [.t 6], none⟩

/-- bailey/baileyref13.Copy -/
def F12 : FnIR := ⟨20,
 .seq (
 .reg [
 ⟨some 2, none, .mov (.k (.lit .nil []))⟩] [0]) (
 .seq (
 .reg [
 ⟨some 6, none, .bsl true 26 true [.s (.int .u64 0), .s (.int .i64 0), .s (.int .i64 0), .lit .nil [], .s (.int .i64 0), .lit .nil [], .s (.int .i64 0), .s (.int .i64 0), .lit .nil [], .lit .nil [], .s (.int .u64 0), .s (.int .u64 0), .s (.int .u64 0), .s (.int .u64 0), .s (.int .i64 0), .s (.int .i64 0), .s (.bool false), .s (.int .u64 0), .s (.int .u64 0), .s (.int .u64 0), .s (.int .u64 0), .s (.int .u64 0), .s (.int .u64 0), .s (.int .u64 0), .s (.int .u64 0), .s (.int .u64 0)] 0 []⟩,
 ⟨some 3, none, .mov (.t 6)⟩] [0, 3]) (
 .seq (
 .seq (
 .reg [
 ⟨some 7, none, .mov (.t 0)⟩,
 ⟨some 8, none, .len (.t 7)⟩,
 ⟨some 9, none, .mov (.k (.s (.int .i64 0)))⟩] [3, 7, 8, 9]) (
 .block 0 (
 .loop (
 .seq (
 .reg [
 ⟨some 10, none, .bin .lss (.t 9) (.t 8)⟩] [3, 7, 8, 9, 10]) (
 .seq (
 .cond (.t 10) (
 .skip) (
 .exit 0)) (
 .seq (
 .block 1 (
 .seq (
 .reg [
 ⟨some 11, none, .ixa (.t 7) (.t 9) 26 none⟩,
 ⟨some 12, none, .load (.t 11) 26 true⟩,
 ⟨some 5, none, .alloc [.s (.int .u64 0), .s (.int .i64 0), .s (.int .i64 0), .lit .nil [], .s (.int .i64 0), .lit .nil [], .s (.int .i64 0), .s (.int .i64 0), .lit .nil [], .lit .nil [], .s (.int .u64 0), .s (.int .u64 0), .s (.int .u64 0), .s (.int .u64 0), .s (.int .i64 0), .s (.int .i64 0), .s (.bool false), .s (.int .u64 0), .s (.int .u64 0), .s (.int .u64 0), .s (.int .u64 0), .s (.int .u64 0), .s (.int .u64 0), .s (.int .u64 0), .s (.int .u64 0), .s (.int .u64 0)]⟩,
 ⟨none, none, .store (.t 5) (.t 12) 26⟩] [3, 5, 7, 8, 9]) (
 .reg [
 ⟨some 13, none, .mov (.t 3)⟩,
 ⟨some 14, none, .load (.t 5) 26 true⟩,
 ⟨some 15, none, .call false 33 0 [.t 14]⟩,
 ⟨some 16, none, .bsl true 26 true [.s (.int .u64 0), .s (.int .i64 0), .s (.int .i64 0), .lit .nil [], .s (.int .i64 0), .lit .nil [], .s (.int .i64 0), .s (.int .i64 0), .lit .nil [], .lit .nil [], .s (.int .u64 0), .s (.int .u64 0), .s (.int .u64 0), .s (.int .u64 0), .s (.int .i64 0), .s (.int .i64 0), .s (.bool false), .s (.int .u64 0), .s (.int .u64 0), .s (.int .u64 0), .s (.int .u64 0), .s (.int .u64 0), .s (.int .u64 0), .s (.int .u64 0), .s (.int .u64 0), .s (.int .u64 0)] 1 [(0, .t 15)]⟩,
 ⟨some 17, none, .app false (.t 13) (.t 16) 26 272 true⟩,
 ⟨some 3, none, .mov (.t 17)⟩] [3, 7, 8, 9]))) (
 .reg [
 ⟨some 18, none, .bin .add (.t 9) (.k (.s (.int .i64 1)))⟩,
 ⟨some 9, none, .mov (.t 18)⟩] [3, 7, 8, 9]))))))) (
 .seq (
 .reg [
 ⟨some 19, none, .mov (.t 3)⟩,
 ⟨some 2, none, .mov (.t 19)⟩] [2]) (
 .ret)))),
 [.t 2], none⟩

/-- bailey/baileyref13.Same -/
def F14 : FnIR := ⟨27,
 .seq (
 .reg [
 ⟨some 4, none, .mov (.k (.s (.bool false)))⟩] [0, 1]) (
 .seq (
 .seq (
 .reg [
 ⟨some 6, none, .mov (.t 0)⟩,
 ⟨some 7, none, .len (.t 6)⟩,
 ⟨some 8, none, .mov (.t 1)⟩,
 ⟨some 9, none, .len (.t 8)⟩,
 ⟨some 10, none, .bin .neq (.t 7) (.t 9)⟩] [0, 1, 10]) (
 .cond (.t 10) (
 .seq (
 .reg [
 ⟨some 4, none, .mov (.k (.s (.bool false)))⟩] [4]) (
 .ret)) (
 .skip))) (
 .seq (
 .seq (
 .reg [
 ⟨some 11, none, .mov (.t 0)⟩,
 ⟨some 12, none, .len (.t 11)⟩,
 ⟨some 13, none, .mov (.k (.s (.int .i64 0)))⟩] [0, 1, 12, 13]) (
 .block 0 (
 .loop (
 .seq (
 .reg [
 ⟨some 14, none, .bin .lss (.t 13) (.t 12)⟩] [0, 1, 12, 13, 14]) (
 .seq (
 .cond (.t 14) (
 .skip) (
 .exit 0)) (
 .seq (
 .block 1 (
 .seq (
 .reg [
 ⟨some 15, none, .mov (.t 13)⟩,
 ⟨some 5, none, .mov (.t 15)⟩] [0, 1, 5, 12, 13]) (
 .seq (
 .drw [
 ⟨some 16, none, .mov (.t 0)⟩,
 ⟨some 17, none, .mov (.t 5)⟩,
 ⟨some 18, none, .ixa (.t 16) (.t 17) 26 none⟩,
 ⟨some 19, none, .load (.t 18) 26 true⟩,
 ⟨some 20, none, .mov (.t 1)⟩,
 ⟨some 21, none, .mov (.t 5)⟩,
 ⟨some 22, none, .ixa (.t 20) (.t 21) 26 none⟩,
 ⟨some 23, none, .load (.t 22) 26 true⟩,
 ⟨some 24, none, .call false 27 0 [.t 19, .t 23]⟩,
 ⟨some 25, none, .un .not (.t 24)⟩] [8] [] [0, 1, 12, 13, 25]) (
 .cond (.t 25) (
 .seq (
 .reg [
 ⟨some 4, none, .mov (.k (.s (.bool false)))⟩] [4]) (
 .ret)) (
 .skip))))) (
 .reg [
 ⟨some 26, none, .bin .add (.t 13) (.k (.s (.int .i64 1)))⟩,
 ⟨some 13, none, .mov (.t 26)⟩] [0, 1, 12, 13]))))))) (
 .seq (
 .reg [
 ⟨some 4, none, .mov (.k (.s (.bool true)))⟩] [4]) (
 .ret)))),
 [.t 4], none⟩

/-- bailey/baileylaw20.kernAlive -/
def F18 : FnIR := ⟨51,
 .seq (
 .reg [
 ⟨some 0, none, .mov (.k (.s (.bool false)))⟩] []) (
 .seq (
 .reg [
 ⟨some 6, none, .call false 19 0 [.k (.s (.int .i64 9))]⟩,
 ⟨some 5, none, .mov (.t 6)⟩,
 ⟨some 7, none, .ext (.t 5) 0⟩,
 ⟨some 8, none, .ext (.t 5) 1⟩,
 ⟨some 1, none, .mov (.t 7)⟩,
 ⟨some 2, none, .mov (.t 8)⟩] [1, 2]) (
 .seq (
 .seq (
 .reg [
 ⟨some 9, none, .mov (.t 2)⟩,
 ⟨some 10, none, .bin .neq (.t 9) (.k (.s (.int .i64 0)))⟩,
 ⟨some 11, none, .mov (.t 10)⟩,
 ⟨some 12, some (11, false), .mov (.t 1)⟩,
 ⟨some 13, some (11, false), .len (.t 12)⟩,
 ⟨some 14, some (11, false), .bin .neq (.t 13) (.k (.s (.int .i64 3)))⟩,
 ⟨some 15, none, .pick (.t 11) (.k (.s (.bool true))) (.t 14)⟩] [1, 15]) (
 .cond (.t 15) (
 .seq (
 .reg [
 ⟨some 0, none, .mov (.k (.s (.bool false)))⟩] [0]) (
 .ret)) (
 .skip))) (
 .seq (
 .reg [
 ⟨some 17, none, .mov (.t 1)⟩,
 ⟨some 18, none, .build [.s (.int .i64 0), .lit .nil []] [(0, 1, .k (.s (.int .i64 2)))]⟩,
 ⟨some 19, none, .build [.s (.int .i64 0), .s (.int .i64 0), .s (.int .i64 0), .s (.int .u64 0), .s (.int .u64 0), .s (.int .u64 0), .s (.int .i64 0), .lit .nil [], .s (.int .i64 0), .lit .nil [], .lit .nil [], .s (.int .u64 0)] [(0, 1, .k (.s (.int .i64 2))), (1, 1, .k (.s (.int .i64 1))), (3, 1, .k (.s (.int .u64 1))), (6, 2, .t 18)]⟩,
 ⟨some 20, none, .call false 22 0 [.t 17, .k (.s (.int .i64 0)), .k (.s (.int .u64 66)), .t 19]⟩,
 ⟨some 16, none, .mov (.t 20)⟩,
 ⟨some 21, none, .ext (.t 16) 0⟩,
 ⟨some 22, none, .ext (.t 16) 1⟩,
 ⟨some 4, none, .alloc [.s (.int .i64 0), .s (.int .u64 0), .lit .nil [], .lit .nil [], .s (.int .i64 0)]⟩,
 ⟨some 3, none, .mov (.t 21)⟩,
 ⟨none, none, .store (.t 4) (.t 22) 5⟩] [3, 4]) (
 .seq (
 .reg [
 ⟨some 23, none, .fad (.t 4) 0⟩,
 ⟨some 24, none, .load (.t 23) 1 false⟩,
 ⟨some 25, none, .bin .eql (.t 24) (.k (.s (.int .i64 0)))⟩,
 ⟨some 26, none, .mov (.t 25)⟩,
 ⟨some 27, some (26, true), .fad (.t 4) 1⟩,
 ⟨some 28, some (26, true), .load (.t 27) 1 false⟩,
 ⟨some 29, some (26, true), .bin .eql (.t 28) (.k (.s (.int .u64 67)))⟩,
 ⟨some 30, none, .pick (.t 26) (.t 29) (.k (.s (.bool false)))⟩,
 ⟨some 31, none, .mov (.t 30)⟩,
 ⟨some 32, some (31, true), .mov (.t 3)⟩,
 ⟨some 33, some (31, true), .len (.t 32)⟩,
 ⟨some 34, some (31, true), .bin .eql (.t 33) (.k (.s (.int .i64 4)))⟩,
 ⟨some 35, none, .pick (.t 31) (.t 34) (.k (.s (.bool false)))⟩,
 ⟨some 36, none, .mov (.t 35)⟩,
 ⟨some 37, some (36, true), .mov (.t 3)⟩,
 ⟨some 38, some (36, true), .ixa (.t 37) (.k (.s (.int .i64 3))) 26 none⟩,
 ⟨some 39, some (36, true), .fad (.t 38) 1⟩,
 ⟨some 40, some (36, true), .load (.t 39) 1 false⟩,
 ⟨some 41, some (36, true), .bin .eql (.t 40) (.k (.s (.int .i64 4)))⟩,
 ⟨some 42, none, .pick (.t 36) (.t 41) (.k (.s (.bool false)))⟩,
 ⟨some 43, none, .mov (.t 42)⟩,
 ⟨some 44, some (43, true), .mov (.t 3)⟩,
 ⟨some 45, some (43, true), .ixa (.t 44) (.k (.s (.int .i64 3))) 26 none⟩,
 ⟨some 46, some (43, true), .fad (.t 45) 9⟩,
 ⟨some 47, some (43, true), .load (.t 46) 1 false⟩,
 ⟨some 48, some (43, true), .len (.t 47)⟩,
 ⟨some 49, some (43, true), .bin .eql (.t 48) (.k (.s (.int .i64 32)))⟩,
 ⟨some 50, none, .pick (.t 43) (.t 49) (.k (.s (.bool false)))⟩,
 ⟨some 0, none, .mov (.t 50)⟩] [0]) (
 .ret))))),
 [.t 0], none⟩

/-- bailey/kern.World -/
def F19 : FnIR := ⟨24,
 .seq (
 .reg [
 ⟨some 2, none, .mov (.k (.lit .nil []))⟩,
 ⟨some 3, none, .mov (.k (.s (.int .i64 0)))⟩] [0]) (
 .seq (
 .seq (
 .reg [
 ⟨some 5, none, .mov (.t 0)⟩,
 ⟨some 6, none, .bin .lss (.t 5) (.k (.s (.int .i64 4)))⟩,
 ⟨some 7, none, .mov (.t 6)⟩,
 ⟨some 8, some (7, false), .mov (.t 0)⟩,
 ⟨some 9, some (7, false), .bin .gtr (.t 8) (.k (.s (.int .i64 48)))⟩,
 ⟨some 10, none, .pick (.t 7) (.k (.s (.bool true))) (.t 9)⟩] [0, 10]) (
 .cond (.t 10) (
 .seq (
 .reg [
 ⟨some 2, none, .mov (.k (.lit .nil []))⟩,
 ⟨some 3, none, .mov (.k (.s (.int .i64 205)))⟩] [2, 3]) (
 .ret)) (
 .skip))) (
 .seq (
 .reg [
 ⟨some 11, none, .build [.s (.int .i64 0), .lit .nil []] [(0, 1, .k (.s (.int .i64 2)))]⟩,
 ⟨some 4, none, .alloc [.s (.int .i64 0), .lit .nil []]⟩,
 ⟨none, none, .store (.t 4) (.t 11) 2⟩] [0, 4]) (
 .seq (
 .reg [
 ⟨some 12, none, .load (.t 4) 2 true⟩,
 ⟨some 13, none, .mov (.t 0)⟩,
 ⟨some 14, none, .build [.s (.int .u64 0), .s (.int .i64 0)] [(0, 1, .k (.s (.int .u64 65))), (1, 1, .k (.s (.int .i64 1)))]⟩,
 ⟨some 15, none, .build [.s (.int .u64 0), .s (.int .i64 0)] [(0, 1, .k (.s (.int .u64 66))), (1, 1, .k (.s (.int .i64 1)))]⟩,
 ⟨some 16, none, .bsl true 2 true [.s (.int .u64 0), .s (.int .i64 0)] 2 [(0, .t 14), (1, .t 15)]⟩,
 ⟨some 17, none, .build [.s (.int .u64 0), .s (.int .i64 0), .s (.int .i64 0), .lit .nil [], .s (.int .i64 0), .lit .nil [], .s (.int .i64 0), .s (.int .i64 0), .lit .nil [], .lit .nil [], .s (.int .u64 0), .s (.int .u64 0), .s (.int .u64 0), .s (.int .u64 0), .s (.int .i64 0), .s (.int .i64 0), .s (.bool false), .s (.int .u64 0), .s (.int .u64 0), .s (.int .u64 0), .s (.int .u64 0), .s (.int .u64 0), .s (.int .u64 0), .s (.int .u64 0), .s (.int .u64 0), .s (.int .u64 0)] [(0, 1, .k (.s (.int .u64 1))), (1, 1, .k (.s (.int .i64 1))), (2, 2, .t 12), (6, 1, .t 13), (7, 1, .k (.s (.int .i64 2))), (8, 1, .t 16)]⟩,
 ⟨some 18, none, .load (.t 4) 2 true⟩,
 ⟨some 19, none, .build [.s (.int .u64 0), .s (.int .i64 0), .s (.int .i64 0), .lit .nil [], .s (.int .i64 0), .lit .nil [], .s (.int .i64 0), .s (.int .i64 0), .lit .nil [], .lit .nil [], .s (.int .u64 0), .s (.int .u64 0), .s (.int .u64 0), .s (.int .u64 0), .s (.int .i64 0), .s (.int .i64 0), .s (.bool false), .s (.int .u64 0), .s (.int .u64 0), .s (.int .u64 0), .s (.int .u64 0), .s (.int .u64 0), .s (.int .u64 0), .s (.int .u64 0), .s (.int .u64 0), .s (.int .u64 0)] [(0, 1, .k (.s (.int .u64 65))), (1, 1, .k (.s (.int .i64 6))), (2, 2, .t 18), (6, 1, .k (.s (.int .i64 1)))]⟩,
 ⟨some 20, none, .load (.t 4) 2 true⟩,
 ⟨some 21, none, .load (.t 4) 2 true⟩,
 ⟨some 22, none, .build [.s (.int .u64 0), .s (.int .i64 0), .s (.int .i64 0), .lit .nil [], .s (.int .i64 0), .lit .nil [], .s (.int .i64 0), .s (.int .i64 0), .lit .nil [], .lit .nil [], .s (.int .u64 0), .s (.int .u64 0), .s (.int .u64 0), .s (.int .u64 0), .s (.int .i64 0), .s (.int .i64 0), .s (.bool false), .s (.int .u64 0), .s (.int .u64 0), .s (.int .u64 0), .s (.int .u64 0), .s (.int .u64 0), .s (.int .u64 0), .s (.int .u64 0), .s (.int .u64 0), .s (.int .u64 0)] [(0, 1, .k (.s (.int .u64 66))), (1, 1, .k (.s (.int .i64 2))), (2, 2, .t 20), (4, 2, .t 21), (6, 1, .k (.s (.int .i64 1)))]⟩,
 ⟨some 23, none, .bsl true 26 true [.s (.int .u64 0), .s (.int .i64 0), .s (.int .i64 0), .lit .nil [], .s (.int .i64 0), .lit .nil [], .s (.int .i64 0), .s (.int .i64 0), .lit .nil [], .lit .nil [], .s (.int .u64 0), .s (.int .u64 0), .s (.int .u64 0), .s (.int .u64 0), .s (.int .i64 0), .s (.int .i64 0), .s (.bool false), .s (.int .u64 0), .s (.int .u64 0), .s (.int .u64 0), .s (.int .u64 0), .s (.int .u64 0), .s (.int .u64 0), .s (.int .u64 0), .s (.int .u64 0), .s (.int .u64 0)] 3 [(0, .t 17), (1, .t 19), (2, .t 22)]⟩,
 ⟨some 2, none, .mov (.t 23)⟩,
 ⟨some 3, none, .mov (.k (.s (.int .i64 0)))⟩] [2, 3]) (
 .ret)))),
 [.t 2, .t 3], none⟩

/-- bailey/baileyref20.World -/
def F20 : FnIR := ⟨24,
 .seq (
 .reg [
 ⟨some 2, none, .mov (.k (.lit .nil []))⟩,
 ⟨some 3, none, .mov (.k (.s (.int .i64 0)))⟩] [0]) (
 .seq (
 .seq (
 .reg [
 ⟨some 5, none, .mov (.t 0)⟩,
 ⟨some 6, none, .bin .lss (.t 5) (.k (.s (.int .i64 4)))⟩,
 ⟨some 7, none, .mov (.t 6)⟩,
 ⟨some 8, some (7, false), .mov (.t 0)⟩,
 ⟨some 9, some (7, false), .bin .gtr (.t 8) (.k (.s (.int .i64 48)))⟩,
 ⟨some 10, none, .pick (.t 7) (.k (.s (.bool true))) (.t 9)⟩] [0, 10]) (
 .cond (.t 10) (
 .seq (
 .reg [
 ⟨some 2, none, .mov (.k (.lit .nil []))⟩,
 ⟨some 3, none, .mov (.k (.s (.int .i64 205)))⟩] [2, 3]) (
 .ret)) (
 .skip))) (
 .seq (
 .reg [
 ⟨some 11, none, .build [.s (.int .i64 0), .lit .nil []] [(0, 1, .k (.s (.int .i64 2)))]⟩,
 ⟨some 4, none, .alloc [.s (.int .i64 0), .lit .nil []]⟩,
 ⟨none, none, .store (.t 4) (.t 11) 2⟩] [0, 4]) (
 .seq (
 .reg [
 ⟨some 12, none, .load (.t 4) 2 true⟩,
 ⟨some 13, none, .mov (.t 0)⟩,
 ⟨some 14, none, .build [.s (.int .u64 0), .s (.int .i64 0)] [(0, 1, .k (.s (.int .u64 65))), (1, 1, .k (.s (.int .i64 1)))]⟩,
 ⟨some 15, none, .build [.s (.int .u64 0), .s (.int .i64 0)] [(0, 1, .k (.s (.int .u64 66))), (1, 1, .k (.s (.int .i64 1)))]⟩,
 ⟨some 16, none, .bsl true 2 true [.s (.int .u64 0), .s (.int .i64 0)] 2 [(0, .t 14), (1, .t 15)]⟩,
 ⟨some 17, none, .build [.s (.int .u64 0), .s (.int .i64 0), .s (.int .i64 0), .lit .nil [], .s (.int .i64 0), .lit .nil [], .s (.int .i64 0), .s (.int .i64 0), .lit .nil [], .lit .nil [], .s (.int .u64 0), .s (.int .u64 0), .s (.int .u64 0), .s (.int .u64 0), .s (.int .i64 0), .s (.int .i64 0), .s (.bool false), .s (.int .u64 0), .s (.int .u64 0), .s (.int .u64 0), .s (.int .u64 0), .s (.int .u64 0), .s (.int .u64 0), .s (.int .u64 0), .s (.int .u64 0), .s (.int .u64 0)] [(0, 1, .k (.s (.int .u64 1))), (1, 1, .k (.s (.int .i64 1))), (2, 2, .t 12), (6, 1, .t 13), (7, 1, .k (.s (.int .i64 2))), (8, 1, .t 16)]⟩,
 ⟨some 18, none, .load (.t 4) 2 true⟩,
 ⟨some 19, none, .build [.s (.int .u64 0), .s (.int .i64 0), .s (.int .i64 0), .lit .nil [], .s (.int .i64 0), .lit .nil [], .s (.int .i64 0), .s (.int .i64 0), .lit .nil [], .lit .nil [], .s (.int .u64 0), .s (.int .u64 0), .s (.int .u64 0), .s (.int .u64 0), .s (.int .i64 0), .s (.int .i64 0), .s (.bool false), .s (.int .u64 0), .s (.int .u64 0), .s (.int .u64 0), .s (.int .u64 0), .s (.int .u64 0), .s (.int .u64 0), .s (.int .u64 0), .s (.int .u64 0), .s (.int .u64 0)] [(0, 1, .k (.s (.int .u64 65))), (1, 1, .k (.s (.int .i64 6))), (2, 2, .t 18), (6, 1, .k (.s (.int .i64 1)))]⟩,
 ⟨some 20, none, .load (.t 4) 2 true⟩,
 ⟨some 21, none, .load (.t 4) 2 true⟩,
 ⟨some 22, none, .build [.s (.int .u64 0), .s (.int .i64 0), .s (.int .i64 0), .lit .nil [], .s (.int .i64 0), .lit .nil [], .s (.int .i64 0), .s (.int .i64 0), .lit .nil [], .lit .nil [], .s (.int .u64 0), .s (.int .u64 0), .s (.int .u64 0), .s (.int .u64 0), .s (.int .i64 0), .s (.int .i64 0), .s (.bool false), .s (.int .u64 0), .s (.int .u64 0), .s (.int .u64 0), .s (.int .u64 0), .s (.int .u64 0), .s (.int .u64 0), .s (.int .u64 0), .s (.int .u64 0), .s (.int .u64 0)] [(0, 1, .k (.s (.int .u64 66))), (1, 1, .k (.s (.int .i64 2))), (2, 2, .t 20), (4, 2, .t 21), (6, 1, .k (.s (.int .i64 1)))]⟩,
 ⟨some 23, none, .bsl true 26 true [.s (.int .u64 0), .s (.int .i64 0), .s (.int .i64 0), .lit .nil [], .s (.int .i64 0), .lit .nil [], .s (.int .i64 0), .s (.int .i64 0), .lit .nil [], .lit .nil [], .s (.int .u64 0), .s (.int .u64 0), .s (.int .u64 0), .s (.int .u64 0), .s (.int .i64 0), .s (.int .i64 0), .s (.bool false), .s (.int .u64 0), .s (.int .u64 0), .s (.int .u64 0), .s (.int .u64 0), .s (.int .u64 0), .s (.int .u64 0), .s (.int .u64 0), .s (.int .u64 0), .s (.int .u64 0)] 3 [(0, .t 17), (1, .t 19), (2, .t 22)]⟩,
 ⟨some 2, none, .mov (.t 23)⟩,
 ⟨some 3, none, .mov (.k (.s (.int .i64 0)))⟩] [2, 3]) (
 .ret)))),
 [.t 2, .t 3], none⟩

/-- bailey/baileyref13.Sound -/
def F21 : FnIR := ⟨92,
 .seq (
 .reg [
 ⟨some 2, none, .mov (.k (.s (.bool false)))⟩] [0]) (
 .seq (
 .seq (
 .reg [
 ⟨some 8, none, .mov (.t 0)⟩,
 ⟨some 9, none, .call false 31 0 [.t 8]⟩,
 ⟨some 10, none, .un .not (.t 9)⟩,
 ⟨some 11, none, .mov (.t 10)⟩,
 ⟨some 12, some (11, false), .mov (.t 0)⟩,
 ⟨some 13, some (11, false), .len (.t 12)⟩,
 ⟨some 14, some (11, false), .bin .eql (.t 13) (.k (.s (.int .i64 0)))⟩,
 ⟨some 15, none, .pick (.t 11) (.k (.s (.bool true))) (.t 14)⟩,
 ⟨some 16, none, .mov (.t 15)⟩,
 ⟨some 17, some (16, false), .mov (.t 0)⟩,
 ⟨some 18, some (16, false), .ixa (.t 17) (.k (.s (.int .i64 0))) 26 none⟩,
 ⟨some 19, some (16, false), .fad (.t 18) 0⟩,
 ⟨some 20, some (16, false), .load (.t 19) 1 false⟩,
 ⟨some 21, some (16, false), .bin .neq (.t 20) (.k (.s (.int .u64 1)))⟩,
 ⟨some 22, none, .pick (.t 16) (.k (.s (.bool true))) (.t 21)⟩,
 ⟨some 23, none, .mov (.t 22)⟩,
 ⟨some 24, some (23, false), .mov (.t 0)⟩,
 ⟨some 25, some (23, false), .ixa (.t 24) (.k (.s (.int .i64 0))) 26 none⟩,
 ⟨some 26, some (23, false), .fad (.t 25) 1⟩,
 ⟨some 27, some (23, false), .load (.t 26) 1 false⟩,
 ⟨some 28, some (23, false), .bin .neq (.t 27) (.k (.s (.int .i64 1)))⟩,
 ⟨some 29, none, .pick (.t 23) (.k (.s (.bool true))) (.t 28)⟩,
 ⟨some 30, none, .mov (.t 29)⟩,
 ⟨some 31, some (30, false), .mov (.t 0)⟩,
 ⟨some 32, some (30, false), .call false 53 0 [.t 31, .k (.s (.int .u64 1))]⟩,
 ⟨some 33, some (30, false), .bin .gtr (.t 32) (.k (.s (.int .i64 0)))⟩,
 ⟨some 34, none, .pick (.t 30) (.k (.s (.bool true))) (.t 33)⟩] [0, 34]) (
 .cond (.t 34) (
 .seq (
 .reg [
 ⟨some 2, none, .mov (.k (.s (.bool false)))⟩] [2]) (
 .ret)) (
 .skip))) (
 .seq (
 .seq (
 .reg [
 ⟨some 35, none, .mov (.t 0)⟩,
 ⟨some 36, none, .len (.t 35)⟩,
 ⟨some 37, none, .mov (.k (.s (.int .i64 0)))⟩] [0, 35, 36, 37]) (
 .block 0 (
 .loop (
 .seq (
 .reg [
 ⟨some 38, none, .bin .lss (.t 37) (.t 36)⟩] [0, 35, 36, 37, 38]) (
 .seq (
 .cond (.t 38) (
 .skip) (
 .exit 0)) (
 .seq (
 .block 1 (
 .seq (
 .reg [
 ⟨some 39, none, .mov (.t 37)⟩,
 ⟨some 40, none, .ixa (.t 35) (.t 37) 26 none⟩,
 ⟨some 41, none, .load (.t 40) 26 true⟩,
 ⟨some 4, none, .alloc [.s (.int .u64 0), .s (.int .i64 0), .s (.int .i64 0), .lit .nil [], .s (.int .i64 0), .lit .nil [], .s (.int .i64 0), .s (.int .i64 0), .lit .nil [], .lit .nil [], .s (.int .u64 0), .s (.int .u64 0), .s (.int .u64 0), .s (.int .u64 0), .s (.int .i64 0), .s (.int .i64 0), .s (.bool false), .s (.int .u64 0), .s (.int .u64 0), .s (.int .u64 0), .s (.int .u64 0), .s (.int .u64 0), .s (.int .u64 0), .s (.int .u64 0), .s (.int .u64 0), .s (.int .u64 0)]⟩,
 ⟨some 3, none, .mov (.t 39)⟩,
 ⟨none, none, .store (.t 4) (.t 41) 26⟩] [0, 3, 4, 35, 36, 37]) (
 .seq (
 .reg [
 ⟨some 42, none, .mov (.t 0)⟩,
 ⟨some 43, none, .fad (.t 4) 0⟩,
 ⟨some 44, none, .load (.t 43) 1 false⟩,
 ⟨some 45, none, .call false 53 0 [.t 42, .t 44]⟩,
 ⟨some 5, none, .mov (.t 45)⟩] [0, 3, 4, 5, 35, 36, 37]) (
 .seq (
 .seq (
 .reg [
 ⟨some 46, none, .load (.t 4) 26 true⟩,
 ⟨some 47, none, .call false 32 0 [.t 46]⟩,
 ⟨some 48, none, .un .not (.t 47)⟩,
 ⟨some 49, none, .mov (.t 48)⟩,
 ⟨some 50, some (49, false), .mov (.t 3)⟩,
 ⟨some 51, some (49, false), .bin .gtr (.t 50) (.k (.s (.int .i64 0)))⟩,
 ⟨some 52, some (49, false), .mov (.t 51)⟩,
 ⟨some 53, some (52, true), .mov (.t 5)⟩,
 ⟨some 54, some (52, true), .bin .lss (.t 53) (.k (.s (.int .i64 1)))⟩,
 ⟨some 55, some (49, false), .pick (.t 52) (.t 54) (.k (.s (.bool false)))⟩,
 ⟨some 56, none, .pick (.t 49) (.k (.s (.bool true))) (.t 55)⟩,
 ⟨some 57, none, .mov (.t 56)⟩,
 ⟨some 58, some (57, false), .fad (.t 4) 1⟩,
 ⟨some 59, some (57, false), .load (.t 58) 1 false⟩,
 ⟨some 60, some (57, false), .bin .eql (.t 59) (.k (.s (.int .i64 1)))⟩,
 ⟨some 61, some (57, false), .mov (.t 60)⟩,
 ⟨some 62, some (61, true), .mov (.t 5)⟩,
 ⟨some 63, some (61, true), .bin .gtr (.t 62) (.k (.s (.int .i64 1)))⟩,
 ⟨some 64, some (57, false), .pick (.t 61) (.t 63) (.k (.s (.bool false)))⟩,
 ⟨some 65, none, .pick (.t 57) (.k (.s (.bool true))) (.t 64)⟩] [0, 4, 35, 36, 37, 65]) (
 .cond (.t 65) (
 .seq (
 .reg [
 ⟨some 2, none, .mov (.k (.s (.bool false)))⟩] [2]) (
 .ret)) (
 .skip))) (
 .seq (
 .seq (
 .reg [
 ⟨some 66, none, .fad (.t 4) 8⟩,
 ⟨some 67, none, .load (.t 66) 1 false⟩,
 ⟨some 68, none, .len (.t 67)⟩,
 ⟨some 69, none, .mov (.k (.s (.int .i64 0)))⟩] [0, 4, 35, 36, 37, 67, 68, 69]) (
 .block 2 (
 .loop (
 .seq (
 .reg [
 ⟨some 70, none, .bin .lss (.t 69) (.t 68)⟩] [0, 4, 35, 36, 37, 67, 68, 69, 70]) (
 .seq (
 .cond (.t 70) (
 .skip) (
 .exit 2)) (
 .seq (
 .block 3 (
 .seq (
 .reg [
 ⟨some 71, none, .ixa (.t 67) (.t 69) 2 none⟩,
 ⟨some 72, none, .load (.t 71) 2 true⟩,
 ⟨some 7, none, .alloc [.s (.int .u64 0), .s (.int .i64 0)]⟩,
 ⟨none, none, .store (.t 7) (.t 72) 2⟩] [0, 4, 7, 35, 36, 37, 67, 68, 69]) (
 .seq (
 .reg [
 ⟨some 73, none, .mov (.t 0)⟩,
 ⟨some 74, none, .load (.t 4) 26 true⟩,
 ⟨some 75, none, .load (.t 7) 2 true⟩,
 ⟨some 76, none, .call false 43 0 [.t 73, .t 74, .t 75]⟩,
 ⟨some 77, none, .un .not (.t 76)⟩] [0, 4, 35, 36, 37, 67, 68, 69, 77]) (
 .cond (.t 77) (
 .seq (
 .reg [
 ⟨some 2, none, .mov (.k (.s (.bool false)))⟩] [2]) (
 .ret)) (
 .skip))))) (
 .reg [
 ⟨some 78, none, .bin .add (.t 69) (.k (.s (.int .i64 1)))⟩,
 ⟨some 69, none, .mov (.t 78)⟩] [0, 4, 35, 36, 37, 67, 68, 69]))))))) (
 .seq (
 .drw [
 ⟨some 79, none, .fad (.t 4) 1⟩,
 ⟨some 80, none, .load (.t 79) 1 false⟩,
 ⟨some 81, none, .bin .eql (.t 80) (.k (.s (.int .i64 1)))⟩,
 ⟨some 82, none, .mov (.t 81)⟩,
 ⟨some 83, some (82, true), .mov (.t 0)⟩,
 ⟨some 84, some (82, true), .fad (.t 4) 0⟩,
 ⟨some 85, some (82, true), .load (.t 84) 1 false⟩,
 ⟨some 86, some (82, true), .call false 45 0 [.t 83, .t 85]⟩,
 ⟨some 87, some (82, true), .fad (.t 4) 7⟩,
 ⟨some 88, some (82, true), .load (.t 87) 1 false⟩,
 ⟨some 89, some (82, true), .bin .gtr (.t 86) (.t 88)⟩,
 ⟨some 90, none, .pick (.t 82) (.t 89) (.k (.s (.bool false)))⟩] [] [] [0, 35, 36, 37, 90]) (
 .cond (.t 90) (
 .seq (
 .reg [
 ⟨some 2, none, .mov (.k (.s (.bool false)))⟩] [2]) (
 .ret)) (
 .skip)))))))) (
 .reg [
 ⟨some 91, none, .bin .add (.t 37) (.k (.s (.int .i64 1)))⟩,
 ⟨some 37, none, .mov (.t 91)⟩] [0, 35, 36, 37]))))))) (
 .seq (
 .reg [
 ⟨some 2, none, .mov (.k (.s (.bool true)))⟩] [2]) (
 .ret)))),
 [.t 2], none⟩

/-- bailey/kern.Step -/
def F22 : FnIR := ⟨43,
 .seq (
 .reg [
 ⟨some 4, none, .bxl (.t 0)⟩,
 ⟨some 7, none, .bxl (.t 3)⟩,
 ⟨some 8, none, .alloc [.lit .nil []]⟩,
 ⟨some 9, none, .alloc [.s (.int .i64 0), .s (.int .u64 0), .lit .nil [], .lit .nil [], .s (.int .i64 0)]⟩] [1, 2, 4, 7, 8, 9]) (
 .seq (
 .dfr [
 ⟨some 13, none, .mkf 54 [] [.t 8, .t 9, .t 4]⟩] (.t 13) [] [1, 2, 4, 7, 8, 9]) (
 .seq (
 .reg [
 ⟨some 14, none, .load (.t 7) 12 true⟩,
 ⟨some 15, none, .load (.t 4) 1 false⟩,
 ⟨some 16, none, .mov (.t 1)⟩,
 ⟨some 17, none, .mov (.t 2)⟩,
 ⟨some 18, none, .build [.s (.int .u64 0), .s (.int .i64 0), .s (.int .i64 0), .lit .nil [], .s (.int .i64 0), .lit .nil [], .s (.int .i64 0), .s (.int .i64 0), .lit .nil [], .lit .nil [], .s (.int .u64 0), .s (.int .u64 0), .s (.int .u64 0), .s (.int .u64 0), .s (.int .i64 0), .s (.int .i64 0), .s (.bool false), .s (.int .u64 0), .s (.int .u64 0), .s (.int .u64 0), .s (.int .u64 0), .s (.int .u64 0), .s (.int .u64 0), .s (.int .u64 0), .s (.int .u64 0), .s (.int .u64 0)] [(0, 1, .t 17)]⟩,
 ⟨some 19, none, .build [.s (.int .i64 0), .s (.int .i64 0), .s (.int .i64 0), .s (.int .u64 0), .s (.int .u64 0), .s (.int .u64 0), .s (.int .i64 0), .lit .nil [], .s (.int .i64 0), .lit .nil [], .lit .nil [], .s (.int .u64 0), .lit .nil [], .s (.int .i64 0), .s (.int .u64 0), .s (.int .i64 0), .s (.int .i64 0), .lit .nil [], .s (.int .i64 0), .lit .nil [], .s (.int .i64 0), .s (.int .i64 0), .lit .nil [], .lit .nil [], .s (.int .u64 0), .s (.int .u64 0), .s (.int .u64 0), .s (.int .u64 0), .s (.int .i64 0), .s (.int .i64 0), .s (.bool false), .s (.int .u64 0), .s (.int .u64 0), .s (.int .u64 0), .s (.int .u64 0), .s (.int .u64 0), .s (.int .u64 0), .s (.int .u64 0), .s (.int .u64 0), .s (.int .u64 0), .s (.int .i64 0), .s (.int .u64 0), .lit .nil [], .lit .nil [], .s (.int .i64 0)] [(0, 12, .t 14), (12, 1, .t 15), (13, 1, .t 16), (14, 26, .t 18)]⟩,
 ⟨some 20, none, .box (.t 19)⟩,
 ⟨some 10, none, .mov (.t 20)⟩] [8, 9, 10]) (
 .seq (
 .reg [
 ⟨some 21, none, .mov (.t 10)⟩,
 ⟨some 22, none, .call true 56 0 [.t 21]⟩] [8, 9, 10]) (
 .seq (
 .seq (
 .reg [
 ⟨some 23, none, .mov (.t 10)⟩,
 ⟨some 24, none, .nck (.t 23)⟩,
 ⟨some 25, none, .fad (.t 24) 12⟩,
 ⟨some 26, none, .load (.t 25) 1 false⟩,
 ⟨some 27, none, .len (.t 26)⟩,
 ⟨some 28, none, .mov (.k (.s (.int .i64 0)))⟩] [8, 9, 10, 26, 27, 28]) (
 .block 0 (
 .loop (
 .seq (
 .reg [
 ⟨some 29, none, .bin .lss (.t 28) (.t 27)⟩] [8, 9, 10, 26, 27, 28, 29]) (
 .seq (
 .cond (.t 29) (
 .skip) (
 .exit 0)) (
 .seq (
 .block 1 (
 .seq (
 .reg [
 ⟨some 30, none, .ixa (.t 26) (.t 28) 26 none⟩,
 ⟨some 31, none, .load (.t 30) 26 true⟩,
 ⟨some 12, none, .alloc [.s (.int .u64 0), .s (.int .i64 0), .s (.int .i64 0), .lit .nil [], .s (.int .i64 0), .lit .nil [], .s (.int .i64 0), .s (.int .i64 0), .lit .nil [], .lit .nil [], .s (.int .u64 0), .s (.int .u64 0), .s (.int .u64 0), .s (.int .u64 0), .s (.int .i64 0), .s (.int .i64 0), .s (.bool false), .s (.int .u64 0), .s (.int .u64 0), .s (.int .u64 0), .s (.int .u64 0), .s (.int .u64 0), .s (.int .u64 0), .s (.int .u64 0), .s (.int .u64 0), .s (.int .u64 0)]⟩,
 ⟨none, none, .store (.t 12) (.t 31) 26⟩] [8, 9, 10, 12, 26, 27, 28]) (
 .drw [
 ⟨some 32, none, .load (.t 8) 1 false⟩,
 ⟨some 33, none, .load (.t 12) 26 true⟩,
 ⟨some 34, none, .call false 55 0 [.t 33]⟩,
 ⟨some 35, none, .bsl true 26 true [.s (.int .u64 0), .s (.int .i64 0), .s (.int .i64 0), .lit .nil [], .s (.int .i64 0), .lit .nil [], .s (.int .i64 0), .s (.int .i64 0), .lit .nil [], .lit .nil [], .s (.int .u64 0), .s (.int .u64 0), .s (.int .u64 0), .s (.int .u64 0), .s (.int .i64 0), .s (.int .i64 0), .s (.bool false), .s (.int .u64 0), .s (.int .u64 0), .s (.int .u64 0), .s (.int .u64 0), .s (.int .u64 0), .s (.int .u64 0), .s (.int .u64 0), .s (.int .u64 0), .s (.int .u64 0)] 1 [(0, .t 34)]⟩,
 ⟨some 36, none, .app false (.t 32) (.t 35) 26 272 true⟩,
 ⟨none, none, .store (.t 8) (.t 36) 1⟩] [] [] [8, 9, 10, 26, 27, 28]))) (
 .reg [
 ⟨some 37, none, .bin .add (.t 28) (.k (.s (.int .i64 1)))⟩,
 ⟨some 28, none, .mov (.t 37)⟩] [8, 9, 10, 26, 27, 28]))))))) (
 .seq (
 .drw [
 ⟨some 38, none, .load (.t 8) 1 false⟩,
 ⟨some 39, none, .mov (.t 10)⟩,
 ⟨some 40, none, .nck (.t 39)⟩,
 ⟨some 41, none, .fad (.t 40) 40⟩,
 ⟨some 42, none, .load (.t 41) 5 true⟩,
 ⟨none, none, .store (.t 8) (.t 38) 1⟩,
 ⟨none, none, .store (.t 9) (.t 42) 5⟩] [] [(4, 5)] [8, 9]) (
 .ret)))))),
 [.c 8 1 false, .c 9 5 true], none⟩

/-- bailey/baileyref20.Step -/
def F23 : FnIR := ⟨50,
 .seq (
 .reg [
 ⟨some 7, none, .bxl (.t 3)⟩,
 ⟨some 8, none, .mov (.k (.lit .nil []))⟩,
 ⟨some 9, none, .alloc [.s (.int .i64 0), .s (.int .u64 0), .lit .nil [], .lit .nil [], .s (.int .i64 0)]⟩] [0, 1, 2, 7, 9]) (
 .seq (
 .reg [
 ⟨some 16, none, .mov (.t 0)⟩,
 ⟨some 17, none, .mov (.t 2)⟩,
 ⟨some 18, none, .call false 25 0 [.t 16, .t 17]⟩,
 ⟨some 15, none, .mov (.t 18)⟩,
 ⟨some 19, none, .ext (.t 15) 0⟩,
 ⟨some 20, none, .ext (.t 15) 1⟩,
 ⟨some 10, none, .alloc [.s (.int .u64 0), .s (.int .i64 0), .s (.int .i64 0), .lit .nil [], .s (.int .i64 0), .lit .nil [], .s (.int .i64 0), .s (.int .i64 0), .lit .nil [], .lit .nil [], .s (.int .u64 0), .s (.int .u64 0), .s (.int .u64 0), .s (.int .u64 0), .s (.int .i64 0), .s (.int .i64 0), .s (.bool false), .s (.int .u64 0), .s (.int .u64 0), .s (.int .u64 0), .s (.int .u64 0), .s (.int .u64 0), .s (.int .u64 0), .s (.int .u64 0), .s (.int .u64 0), .s (.int .u64 0)]⟩,
 ⟨none, none, .store (.t 10) (.t 19) 26⟩,
 ⟨some 11, none, .mov (.t 20)⟩] [0, 1, 7, 9, 10, 11]) (
 .seq (
 .seq (
 .reg [
 ⟨some 21, none, .mov (.t 11)⟩,
 ⟨some 22, none, .un .not (.t 21)⟩,
 ⟨some 23, none, .mov (.t 22)⟩,
 ⟨some 24, some (23, false), .fad (.t 10) 1⟩,
 ⟨some 25, some (23, false), .load (.t 24) 1 false⟩,
 ⟨some 26, some (23, false), .bin .neq (.t 25) (.k (.s (.int .i64 2)))⟩,
 ⟨some 27, none, .pick (.t 23) (.k (.s (.bool true))) (.t 26)⟩,
 ⟨some 28, none, .mov (.t 27)⟩,
 ⟨some 29, some (28, false), .fad (.t 10) 16⟩,
 ⟨some 30, some (28, false), .load (.t 29) 1 false⟩,
 ⟨some 31, none, .pick (.t 28) (.k (.s (.bool true))) (.t 30)⟩] [0, 1, 7, 9, 10, 31]) (
 .cond (.t 31) (
 .seq (
 .reg [
 ⟨some 32, none, .mov (.t 0)⟩,
 ⟨some 33, none, .build [.s (.int .i64 0), .s (.int .u64 0), .lit .nil [], .lit .nil [], .s (.int .i64 0)] [(0, 1, .k (.s (.int .i64 206)))]⟩,
 ⟨some 8, none, .mov (.t 32)⟩,
 ⟨none, none, .store (.t 9) (.t 33) 5⟩] [8, 9]) (
 .ret)) (
 .skip))) (
 .seq (
 .reg [
 ⟨some 35, none, .mov (.t 0)⟩,
 ⟨some 36, none, .mov (.t 1)⟩,
 ⟨some 37, none, .load (.t 10) 26 true⟩,
 ⟨some 38, none, .load (.t 7) 12 true⟩,
 ⟨some 39, none, .call false 57 0 [.t 35, .t 36, .t 37, .t 38]⟩,
 ⟨some 34, none, .mov (.t 39)⟩,
 ⟨some 40, none, .ext (.t 34) 0⟩,
 ⟨some 41, none, .ext (.t 34) 1⟩,
 ⟨some 42, none, .ext (.t 34) 2⟩,
 ⟨some 13, none, .alloc [.s (.int .i64 0), .s (.int .u64 0), .lit .nil [], .lit .nil [], .s (.int .i64 0)]⟩,
 ⟨some 12, none, .mov (.t 40)⟩,
 ⟨none, none, .store (.t 13) (.t 41) 5⟩,
 ⟨some 14, none, .mov (.t 42)⟩] [0, 9, 12, 13, 14]) (
 .seq (
 .seq (
 .reg [
 ⟨some 43, none, .mov (.t 14)⟩,
 ⟨some 44, none, .bin .neq (.t 43) (.k (.s (.int .i64 0)))⟩] [0, 9, 12, 13, 14, 44]) (
 .cond (.t 44) (
 .seq (
 .reg [
 ⟨some 45, none, .mov (.t 0)⟩,
 ⟨some 46, none, .mov (.t 14)⟩,
 ⟨some 47, none, .build [.s (.int .i64 0), .s (.int .u64 0), .lit .nil [], .lit .nil [], .s (.int .i64 0)] [(0, 1, .t 46)]⟩,
 ⟨some 8, none, .mov (.t 45)⟩,
 ⟨none, none, .store (.t 9) (.t 47) 5⟩] [8, 9]) (
 .ret)) (
 .skip))) (
 .seq (
 .drw [
 ⟨some 48, none, .mov (.t 12)⟩,
 ⟨some 49, none, .load (.t 13) 5 true⟩,
 ⟨some 8, none, .mov (.t 48)⟩,
 ⟨none, none, .store (.t 9) (.t 49) 5⟩] [] [] [8, 9]) (
 .ret)))))),
 [.t 8, .c 9 5 true], none⟩

/-- bailey/baileyref20.Same -/
def F24 : FnIR := ⟨40,
 .seq (
 .reg [
 ⟨some 2, none, .bxl (.t 0)⟩,
 ⟨some 3, none, .bxl (.t 1)⟩,
 ⟨some 4, none, .mov (.k (.s (.bool false)))⟩] [2, 3]) (
 .seq (
 .reg [
 ⟨some 5, none, .fad (.t 2) 0⟩,
 ⟨some 6, none, .load (.t 5) 1 false⟩,
 ⟨some 7, none, .fad (.t 3) 0⟩,
 ⟨some 8, none, .load (.t 7) 1 false⟩,
 ⟨some 9, none, .bin .eql (.t 6) (.t 8)⟩,
 ⟨some 10, none, .mov (.t 9)⟩,
 ⟨some 11, some (10, true), .fad (.t 2) 1⟩,
 ⟨some 12, some (10, true), .load (.t 11) 1 false⟩,
 ⟨some 13, some (10, true), .fad (.t 3) 1⟩,
 ⟨some 14, some (10, true), .load (.t 13) 1 false⟩,
 ⟨some 15, some (10, true), .bin .eql (.t 12) (.t 14)⟩,
 ⟨some 16, none, .pick (.t 10) (.t 15) (.k (.s (.bool false)))⟩,
 ⟨some 17, none, .mov (.t 16)⟩,
 ⟨some 18, some (17, true), .fad (.t 2) 2⟩,
 ⟨some 19, some (17, true), .load (.t 18) 1 false⟩,
 ⟨some 20, some (17, true), .s2s (.t 19)⟩,
 ⟨some 21, some (17, true), .fad (.t 3) 2⟩,
 ⟨some 22, some (17, true), .load (.t 21) 1 false⟩,
 ⟨some 23, some (17, true), .s2s (.t 22)⟩,
 ⟨some 24, some (17, true), .bin .eql (.t 20) (.t 23)⟩,
 ⟨some 25, none, .pick (.t 17) (.t 24) (.k (.s (.bool false)))⟩,
 ⟨some 26, none, .mov (.t 25)⟩,
 ⟨some 27, some (26, true), .fad (.t 2) 4⟩,
 ⟨some 28, some (26, true), .load (.t 27) 1 false⟩,
 ⟨some 29, some (26, true), .fad (.t 3) 4⟩,
 ⟨some 30, some (26, true), .load (.t 29) 1 false⟩,
 ⟨some 31, some (26, true), .bin .eql (.t 28) (.t 30)⟩,
 ⟨some 32, none, .pick (.t 26) (.t 31) (.k (.s (.bool false)))⟩,
 ⟨some 33, none, .mov (.t 32)⟩,
 ⟨some 34, some (33, true), .fad (.t 2) 3⟩,
 ⟨some 35, some (33, true), .load (.t 34) 1 false⟩,
 ⟨some 36, some (33, true), .fad (.t 3) 3⟩,
 ⟨some 37, some (33, true), .load (.t 36) 1 false⟩,
 ⟨some 38, some (33, true), .call false 30 0 [.t 35, .t 37]⟩,
 ⟨some 39, none, .pick (.t 33) (.t 38) (.k (.s (.bool false)))⟩,
 ⟨some 4, none, .mov (.t 39)⟩] [4]) (
 .ret)),
 [.t 4], none⟩

/-- bailey/baileyref13.Find -/
def F25 : FnIR := ⟨21,
 .seq (
 .reg [
 ⟨some 4, none, .alloc [.s (.int .u64 0), .s (.int .i64 0), .s (.int .i64 0), .lit .nil [], .s (.int .i64 0), .lit .nil [], .s (.int .i64 0), .s (.int .i64 0), .lit .nil [], .lit .nil [], .s (.int .u64 0), .s (.int .u64 0), .s (.int .u64 0), .s (.int .u64 0), .s (.int .i64 0), .s (.int .i64 0), .s (.bool false), .s (.int .u64 0), .s (.int .u64 0), .s (.int .u64 0), .s (.int .u64 0), .s (.int .u64 0), .s (.int .u64 0), .s (.int .u64 0), .s (.int .u64 0), .s (.int .u64 0)]⟩,
 ⟨some 5, none, .mov (.k (.s (.bool false)))⟩] [0, 1, 4]) (
 .seq (
 .seq (
 .reg [
 ⟨some 8, none, .mov (.t 0)⟩,
 ⟨some 9, none, .len (.t 8)⟩,
 ⟨some 10, none, .mov (.k (.s (.int .i64 0)))⟩] [1, 4, 8, 9, 10]) (
 .block 0 (
 .loop (
 .seq (
 .reg [
 ⟨some 11, none, .bin .lss (.t 10) (.t 9)⟩] [1, 4, 8, 9, 10, 11]) (
 .seq (
 .cond (.t 11) (
 .skip) (
 .exit 0)) (
 .seq (
 .block 1 (
 .seq (
 .reg [
 ⟨some 12, none, .ixa (.t 8) (.t 10) 26 none⟩,
 ⟨some 13, none, .load (.t 12) 26 true⟩,
 ⟨some 7, none, .alloc [.s (.int .u64 0), .s (.int .i64 0), .s (.int .i64 0), .lit .nil [], .s (.int .i64 0), .lit .nil [], .s (.int .i64 0), .s (.int .i64 0), .lit .nil [], .lit .nil [], .s (.int .u64 0), .s (.int .u64 0), .s (.int .u64 0), .s (.int .u64 0), .s (.int .i64 0), .s (.int .i64 0), .s (.bool false), .s (.int .u64 0), .s (.int .u64 0), .s (.int .u64 0), .s (.int .u64 0), .s (.int .u64 0), .s (.int .u64 0), .s (.int .u64 0), .s (.int .u64 0), .s (.int .u64 0)]⟩,
 ⟨none, none, .store (.t 7) (.t 13) 26⟩] [1, 4, 7, 8, 9, 10]) (
 .seq (
 .reg [
 ⟨some 14, none, .fad (.t 7) 0⟩,
 ⟨some 15, none, .load (.t 14) 1 false⟩,
 ⟨some 16, none, .mov (.t 1)⟩,
 ⟨some 17, none, .bin .eql (.t 15) (.t 16)⟩] [1, 4, 7, 8, 9, 10, 17]) (
 .cond (.t 17) (
 .seq (
 .reg [
 ⟨some 18, none, .load (.t 7) 26 true⟩,
 ⟨none, none, .store (.t 4) (.t 18) 26⟩,
 ⟨some 5, none, .mov (.k (.s (.bool true)))⟩] [4, 5]) (
 .ret)) (
 .skip))))) (
 .reg [
 ⟨some 19, none, .bin .add (.t 10) (.k (.s (.int .i64 1)))⟩,
 ⟨some 10, none, .mov (.t 19)⟩] [1, 4, 8, 9, 10]))))))) (
 .seq (
 .reg [
 ⟨some 20, none, .build [.s (.int .u64 0), .s (.int .i64 0), .s (.int .i64 0), .lit .nil [], .s (.int .i64 0), .lit .nil [], .s (.int .i64 0), .s (.int .i64 0), .lit .nil [], .lit .nil [], .s (.int .u64 0), .s (.int .u64 0), .s (.int .u64 0), .s (.int .u64 0), .s (.int .i64 0), .s (.int .i64 0), .s (.bool false), .s (.int .u64 0), .s (.int .u64 0), .s (.int .u64 0), .s (.int .u64 0), .s (.int .u64 0), .s (.int .u64 0), .s (.int .u64 0), .s (.int .u64 0), .s (.int .u64 0)] []⟩,
 ⟨none, none, .store (.t 4) (.t 20) 26⟩,
 ⟨some 5, none, .mov (.k (.s (.bool false)))⟩] [4, 5]) (
 .ret))),
 [.c 4 26 true, .t 5], none⟩

/-- bailey/baileyref09.Exact -/
def F26 : FnIR := ⟨38,
 .seq (
 .reg [
 ⟨some 2, none, .bxl (.t 0)⟩,
 ⟨some 3, none, .bxl (.t 1)⟩,
 ⟨some 4, none, .mov (.k (.s (.bool false)))⟩] [2, 3]) (
 .seq (
 .seq (
 .reg [
 ⟨some 6, none, .fad (.t 2) 0⟩,
 ⟨some 7, none, .load (.t 6) 1 false⟩,
 ⟨some 8, none, .fad (.t 3) 0⟩,
 ⟨some 9, none, .load (.t 8) 1 false⟩,
 ⟨some 10, none, .bin .neq (.t 7) (.t 9)⟩,
 ⟨some 11, none, .mov (.t 10)⟩,
 ⟨some 12, some (11, false), .fad (.t 2) 1⟩,
 ⟨some 13, some (11, false), .load (.t 12) 1 false⟩,
 ⟨some 14, some (11, false), .len (.t 13)⟩,
 ⟨some 15, some (11, false), .fad (.t 3) 1⟩,
 ⟨some 16, some (11, false), .load (.t 15) 1 false⟩,
 ⟨some 17, some (11, false), .len (.t 16)⟩,
 ⟨some 18, some (11, false), .bin .neq (.t 14) (.t 17)⟩,
 ⟨some 19, none, .pick (.t 11) (.k (.s (.bool true))) (.t 18)⟩] [2, 3, 19]) (
 .cond (.t 19) (
 .seq (
 .reg [
 ⟨some 4, none, .mov (.k (.s (.bool false)))⟩] [4]) (
 .ret)) (
 .skip))) (
 .seq (
 .seq (
 .reg [
 ⟨some 20, none, .fad (.t 2) 1⟩,
 ⟨some 21, none, .load (.t 20) 1 false⟩,
 ⟨some 22, none, .len (.t 21)⟩,
 ⟨some 23, none, .mov (.k (.s (.int .i64 0)))⟩] [2, 3, 22, 23]) (
 .block 0 (
 .loop (
 .seq (
 .reg [
 ⟨some 24, none, .bin .lss (.t 23) (.t 22)⟩] [2, 3, 22, 23, 24]) (
 .seq (
 .cond (.t 24) (
 .skip) (
 .exit 0)) (
 .seq (
 .block 1 (
 .seq (
 .reg [
 ⟨some 25, none, .mov (.t 23)⟩,
 ⟨some 5, none, .mov (.t 25)⟩] [2, 3, 5, 22, 23]) (
 .seq (
 .drw [
 ⟨some 26, none, .fad (.t 2) 1⟩,
 ⟨some 27, none, .load (.t 26) 1 false⟩,
 ⟨some 28, none, .mov (.t 5)⟩,
 ⟨some 29, none, .ixa (.t 27) (.t 28) 2 none⟩,
 ⟨some 30, none, .load (.t 29) 2 true⟩,
 ⟨some 31, none, .fad (.t 3) 1⟩,
 ⟨some 32, none, .load (.t 31) 1 false⟩,
 ⟨some 33, none, .mov (.t 5)⟩,
 ⟨some 34, none, .ixa (.t 32) (.t 33) 2 none⟩,
 ⟨some 35, none, .load (.t 34) 2 true⟩,
 ⟨some 36, none, .eqk (.cells [.i, .i]) true (.t 30) (.t 35)⟩] [] [] [2, 3, 22, 23, 36]) (
 .cond (.t 36) (
 .seq (
 .reg [
 ⟨some 4, none, .mov (.k (.s (.bool false)))⟩] [4]) (
 .ret)) (
 .skip))))) (
 .reg [
 ⟨some 37, none, .bin .add (.t 23) (.k (.s (.int .i64 1)))⟩,
 ⟨some 23, none, .mov (.t 37)⟩] [2, 3, 22, 23]))))))) (
 .seq (
 .reg [
 ⟨some 4, none, .mov (.k (.s (.bool true)))⟩] [4]) (
 .ret)))),
 [.t 4], none⟩

/-- bailey/baileyref11.Same -/
def F27 : FnIR := ⟨124,
 .seq (
 .reg [
 ⟨some 2, none, .bxl (.t 0)⟩,
 ⟨some 3, none, .bxl (.t 1)⟩,
 ⟨some 4, none, .mov (.k (.s (.bool false)))⟩] [2, 3]) (
 .seq (
 .seq (
 .reg [
 ⟨some 6, none, .fad (.t 2) 0⟩,
 ⟨some 7, none, .load (.t 6) 1 false⟩,
 ⟨some 8, none, .fad (.t 3) 0⟩,
 ⟨some 9, none, .load (.t 8) 1 false⟩,
 ⟨some 10, none, .bin .neq (.t 7) (.t 9)⟩,
 ⟨some 11, none, .mov (.t 10)⟩,
 ⟨some 12, some (11, false), .fad (.t 2) 1⟩,
 ⟨some 13, some (11, false), .load (.t 12) 1 false⟩,
 ⟨some 14, some (11, false), .fad (.t 3) 1⟩,
 ⟨some 15, some (11, false), .load (.t 14) 1 false⟩,
 ⟨some 16, some (11, false), .bin .neq (.t 13) (.t 15)⟩,
 ⟨some 17, none, .pick (.t 11) (.k (.s (.bool true))) (.t 16)⟩,
 ⟨some 18, none, .mov (.t 17)⟩,
 ⟨some 19, some (18, false), .fad (.t 2) 6⟩,
 ⟨some 20, some (18, false), .load (.t 19) 1 false⟩,
 ⟨some 21, some (18, false), .fad (.t 3) 6⟩,
 ⟨some 22, some (18, false), .load (.t 21) 1 false⟩,
 ⟨some 23, some (18, false), .bin .neq (.t 20) (.t 22)⟩,
 ⟨some 24, none, .pick (.t 18) (.k (.s (.bool true))) (.t 23)⟩,
 ⟨some 25, none, .mov (.t 24)⟩,
 ⟨some 26, some (25, false), .fad (.t 2) 7⟩,
 ⟨some 27, some (25, false), .load (.t 26) 1 false⟩,
 ⟨some 28, some (25, false), .fad (.t 3) 7⟩,
 ⟨some 29, some (25, false), .load (.t 28) 1 false⟩,
 ⟨some 30, some (25, false), .bin .neq (.t 27) (.t 29)⟩,
 ⟨some 31, none, .pick (.t 25) (.k (.s (.bool true))) (.t 30)⟩,
 ⟨some 32, none, .mov (.t 31)⟩,
 ⟨some 33, some (32, false), .fad (.t 2) 10⟩,
 ⟨some 34, some (32, false), .load (.t 33) 4 true⟩,
 ⟨some 35, some (32, false), .fad (.t 3) 10⟩,
 ⟨some 36, some (32, false), .load (.t 35) 4 true⟩,
 ⟨some 37, some (32, false), .eqk (.cells [.i, .i, .i, .i]) true (.t 34) (.t 36)⟩,
 ⟨some 38, none, .pick (.t 32) (.k (.s (.bool true))) (.t 37)⟩,
 ⟨some 39, none, .mov (.t 38)⟩,
 ⟨some 40, some (39, false), .fad (.t 2) 14⟩,
 ⟨some 41, some (39, false), .load (.t 40) 1 false⟩,
 ⟨some 42, some (39, false), .fad (.t 3) 14⟩,
 ⟨some 43, some (39, false), .load (.t 42) 1 false⟩,
 ⟨some 44, some (39, false), .bin .neq (.t 41) (.t 43)⟩,
 ⟨some 45, none, .pick (.t 39) (.k (.s (.bool true))) (.t 44)⟩,
 ⟨some 46, none, .mov (.t 45)⟩,
 ⟨some 47, some (46, false), .fad (.t 2) 15⟩,
 ⟨some 48, some (46, false), .load (.t 47) 1 false⟩,
 ⟨some 49, some (46, false), .fad (.t 3) 15⟩,
 ⟨some 50, some (46, false), .load (.t 49) 1 false⟩,
 ⟨some 51, some (46, false), .bin .neq (.t 48) (.t 50)⟩,
 ⟨some 52, none, .pick (.t 46) (.k (.s (.bool true))) (.t 51)⟩,
 ⟨some 53, none, .mov (.t 52)⟩,
 ⟨some 54, some (53, false), .fad (.t 2) 16⟩,
 ⟨some 55, some (53, false), .load (.t 54) 1 false⟩,
 ⟨some 56, some (53, false), .fad (.t 3) 16⟩,
 ⟨some 57, some (53, false), .load (.t 56) 1 false⟩,
 ⟨some 58, some (53, false), .eqk .bools true (.t 55) (.t 57)⟩,
 ⟨some 59, none, .pick (.t 53) (.k (.s (.bool true))) (.t 58)⟩,
 ⟨some 60, none, .mov (.t 59)⟩,
 ⟨some 61, some (60, false), .fad (.t 2) 17⟩,
 ⟨some 62, some (60, false), .load (.t 61) 1 false⟩,
 ⟨some 63, some (60, false), .fad (.t 3) 17⟩,
 ⟨some 64, some (60, false), .load (.t 63) 1 false⟩,
 ⟨some 65, some (60, false), .bin .neq (.t 62) (.t 64)⟩,
 ⟨some 66, none, .pick (.t 60) (.k (.s (.bool true))) (.t 65)⟩,
 ⟨some 67, none, .mov (.t 66)⟩,
 ⟨some 68, some (67, false), .fad (.t 2) 18⟩,
 ⟨some 69, some (67, false), .load (.t 68) 8 true⟩,
 ⟨some 70, some (67, false), .fad (.t 3) 18⟩,
 ⟨some 71, some (67, false), .load (.t 70) 8 true⟩,
 ⟨some 72, some (67, false), .eqk (.cells [.i, .i, .i, .i, .i, .i, .i, .i]) true (.t 69) (.t 71)⟩,
 ⟨some 73, none, .pick (.t 67) (.k (.s (.bool true))) (.t 72)⟩] [2, 3, 73]) (
 .cond (.t 73) (
 .seq (
 .reg [
 ⟨some 4, none, .mov (.k (.s (.bool false)))⟩] [4]) (
 .ret)) (
 .skip))) (
 .seq (
 .seq (
 .reg [
 ⟨some 74, none, .fad (.t 2) 2⟩,
 ⟨some 75, none, .load (.t 74) 2 true⟩,
 ⟨some 76, none, .fad (.t 3) 2⟩,
 ⟨some 77, none, .load (.t 76) 2 true⟩,
 ⟨some 78, none, .call false 26 0 [.t 75, .t 77]⟩,
 ⟨some 79, none, .un .not (.t 78)⟩,
 ⟨some 80, none, .mov (.t 79)⟩,
 ⟨some 81, some (80, false), .fad (.t 2) 4⟩,
 ⟨some 82, some (80, false), .load (.t 81) 2 true⟩,
 ⟨some 83, some (80, false), .fad (.t 3) 4⟩,
 ⟨some 84, some (80, false), .load (.t 83) 2 true⟩,
 ⟨some 85, some (80, false), .call false 26 0 [.t 82, .t 84]⟩,
 ⟨some 86, some (80, false), .un .not (.t 85)⟩,
 ⟨some 87, none, .pick (.t 80) (.k (.s (.bool true))) (.t 86)⟩,
 ⟨some 88, none, .mov (.t 87)⟩,
 ⟨some 89, some (88, false), .fad (.t 2) 9⟩,
 ⟨some 90, some (88, false), .load (.t 89) 1 false⟩,
 ⟨some 91, some (88, false), .s2s (.t 90)⟩,
 ⟨some 92, some (88, false), .fad (.t 3) 9⟩,
 ⟨some 93, some (88, false), .load (.t 92) 1 false⟩,
 ⟨some 94, some (88, false), .s2s (.t 93)⟩,
 ⟨some 95, some (88, false), .bin .neq (.t 91) (.t 94)⟩,
 ⟨some 96, none, .pick (.t 88) (.k (.s (.bool true))) (.t 95)⟩,
 ⟨some 97, none, .mov (.t 96)⟩,
 ⟨some 98, some (97, false), .fad (.t 2) 8⟩,
 ⟨some 99, some (97, false), .load (.t 98) 1 false⟩,
 ⟨some 100, some (97, false), .len (.t 99)⟩,
 ⟨some 101, some (97, false), .fad (.t 3) 8⟩,
 ⟨some 102, some (97, false), .load (.t 101) 1 false⟩,
 ⟨some 103, some (97, false), .len (.t 102)⟩,
 ⟨some 104, some (97, false), .bin .neq (.t 100) (.t 103)⟩,
 ⟨some 105, none, .pick (.t 97) (.k (.s (.bool true))) (.t 104)⟩] [2, 3, 105]) (
 .cond (.t 105) (
 .seq (
 .reg [
 ⟨some 4, none, .mov (.k (.s (.bool false)))⟩] [4]) (
 .ret)) (
 .skip))) (
 .seq (
 .seq (
 .reg [
 ⟨some 106, none, .fad (.t 2) 8⟩,
 ⟨some 107, none, .load (.t 106) 1 false⟩,
 ⟨some 108, none, .len (.t 107)⟩,
 ⟨some 109, none, .mov (.k (.s (.int .i64 0)))⟩] [2, 3, 108, 109]) (
 .block 0 (
 .loop (
 .seq (
 .reg [
 ⟨some 110, none, .bin .lss (.t 109) (.t 108)⟩] [2, 3, 108, 109, 110]) (
 .seq (
 .cond (.t 110) (
 .skip) (
 .exit 0)) (
 .seq (
 .block 1 (
 .seq (
 .reg [
 ⟨some 111, none, .mov (.t 109)⟩,
 ⟨some 5, none, .mov (.t 111)⟩] [2, 3, 5, 108, 109]) (
 .seq (
 .drw [
 ⟨some 112, none, .fad (.t 2) 8⟩,
 ⟨some 113, none, .load (.t 112) 1 false⟩,
 ⟨some 114, none, .mov (.t 5)⟩,
 ⟨some 115, none, .ixa (.t 113) (.t 114) 2 none⟩,
 ⟨some 116, none, .load (.t 115) 2 true⟩,
 ⟨some 117, none, .fad (.t 3) 8⟩,
 ⟨some 118, none, .load (.t 117) 1 false⟩,
 ⟨some 119, none, .mov (.t 5)⟩,
 ⟨some 120, none, .ixa (.t 118) (.t 119) 2 none⟩,
 ⟨some 121, none, .load (.t 120) 2 true⟩,
 ⟨some 122, none, .eqk (.cells [.i, .i]) true (.t 116) (.t 121)⟩] [] [] [2, 3, 108, 109, 122]) (
 .cond (.t 122) (
 .seq (
 .reg [
 ⟨some 4, none, .mov (.k (.s (.bool false)))⟩] [4]) (
 .ret)) (
 .skip))))) (
 .reg [
 ⟨some 123, none, .bin .add (.t 109) (.k (.s (.int .i64 1)))⟩,
 ⟨some 109, none, .mov (.t 123)⟩] [2, 3, 108, 109]))))))) (
 .seq (
 .reg [
 ⟨some 4, none, .mov (.k (.s (.bool true)))⟩] [4]) (
 .ret))))),
 [.t 4], none⟩

/-- bailey/graph.Unlink -/
def F28 : FnIR := ⟨108,
 .seq (
 .reg [
 ⟨some 6, none, .mov (.k (.lit .nil []))⟩,
 ⟨some 7, none, .mov (.k (.lit .nil []))⟩,
 ⟨some 8, none, .mov (.k (.s (.int .i64 0)))⟩] [0, 1, 2]) (
 .seq (
 .reg [
 ⟨some 21, none, .mov (.t 0)⟩,
 ⟨some 22, none, .mov (.t 1)⟩,
 ⟨some 23, none, .call false 39 0 [.t 21, .t 22]⟩,
 ⟨some 20, none, .mov (.t 23)⟩,
 ⟨some 24, none, .ext (.t 20) 0⟩,
 ⟨some 25, none, .ext (.t 20) 1⟩,
 ⟨some 9, none, .alloc [.s (.int .u64 0), .s (.int .i64 0), .s (.int .i64 0), .lit .nil [], .s (.int .i64 0), .lit .nil [], .s (.int .i64 0), .s (.int .i64 0), .lit .nil [], .lit .nil [], .s (.int .u64 0), .s (.int .u64 0), .s (.int .u64 0), .s (.int .u64 0), .s (.int .i64 0), .s (.int .i64 0), .s (.bool false), .s (.int .u64 0), .s (.int .u64 0), .s (.int .u64 0), .s (.int .u64 0), .s (.int .u64 0), .s (.int .u64 0), .s (.int .u64 0), .s (.int .u64 0), .s (.int .u64 0)]⟩,
 ⟨none, none, .store (.t 9) (.t 24) 26⟩,
 ⟨some 10, none, .mov (.t 25)⟩] [0, 2, 9, 10]) (
 .seq (
 .seq (
 .reg [
 ⟨some 26, none, .mov (.t 10)⟩,
 ⟨some 27, none, .un .not (.t 26)⟩,
 ⟨some 28, none, .mov (.t 27)⟩,
 ⟨some 29, some (28, false), .fad (.t 9) 1⟩,
 ⟨some 30, some (28, false), .load (.t 29) 1 false⟩,
 ⟨some 31, some (28, false), .bin .neq (.t 30) (.k (.s (.int .i64 1)))⟩,
 ⟨some 32, none, .pick (.t 28) (.k (.s (.bool true))) (.t 31)⟩] [0, 2, 9, 32]) (
 .cond (.t 32) (
 .seq (
 .reg [
 ⟨some 33, none, .mov (.t 0)⟩,
 ⟨some 34, none, .call true 34 0 [.t 33]⟩,
 ⟨some 6, none, .mov (.t 34)⟩,
 ⟨some 7, none, .mov (.k (.lit .nil []))⟩,
 ⟨some 8, none, .mov (.k (.s (.int .i64 131)))⟩] [6, 7, 8]) (
 .ret)) (
 .skip))) (
 .seq (
 .reg [
 ⟨some 36, none, .load (.t 9) 26 true⟩,
 ⟨some 37, none, .mov (.t 2)⟩,
 ⟨some 38, none, .call false 58 0 [.t 36, .t 37]⟩,
 ⟨some 35, none, .mov (.t 38)⟩,
 ⟨some 39, none, .ext (.t 35) 0⟩,
 ⟨some 40, none, .ext (.t 35) 1⟩,
 ⟨none, none, .store (.t 9) (.t 39) 26⟩,
 ⟨some 11, none, .mov (.t 40)⟩] [0, 2, 9, 11]) (
 .seq (
 .seq (
 .reg [
 ⟨some 41, none, .mov (.t 11)⟩,
 ⟨some 42, none, .bin .neq (.t 41) (.k (.s (.int .i64 0)))⟩] [0, 2, 9, 11, 42]) (
 .cond (.t 42) (
 .seq (
 .reg [
 ⟨some 43, none, .mov (.t 0)⟩,
 ⟨some 44, none, .call true 34 0 [.t 43]⟩,
 ⟨some 45, none, .mov (.t 11)⟩,
 ⟨some 6, none, .mov (.t 44)⟩,
 ⟨some 7, none, .mov (.k (.lit .nil []))⟩,
 ⟨some 8, none, .mov (.t 45)⟩] [6, 7, 8]) (
 .ret)) (
 .skip))) (
 .seq (
 .reg [
 ⟨some 46, none, .mov (.t 0)⟩,
 ⟨some 47, none, .load (.t 9) 26 true⟩,
 ⟨some 48, none, .call false 59 0 [.t 46, .t 47]⟩,
 ⟨some 12, none, .mov (.t 48)⟩] [2, 12]) (
 .seq (
 .reg [
 ⟨some 13, none, .mov (.k (.lit .nil []))⟩] [2, 12, 13]) (
 .seq (
 .seq (
 .reg [
 ⟨some 49, none, .mov (.t 2)⟩,
 ⟨some 50, none, .bsl true 1 false [.s (.int .u64 0)] 1 [(0, .t 49)]⟩,
 ⟨some 14, none, .mov (.t 50)⟩] [12, 13, 14]) (
 .block 0 (
 .loop (
 .seq (
 .seq (
 .reg [
 ⟨some 51, none, .mov (.t 14)⟩,
 ⟨some 52, none, .len (.t 51)⟩,
 ⟨some 53, none, .bin .gtr (.t 52) (.k (.s (.int .i64 0)))⟩] [12, 13, 14, 53]) (
 .cond (.t 53) (
 .skip) (
 .exit 0))) (
 .block 1 (
 .seq (
 .reg [
 ⟨some 54, none, .mov (.t 14)⟩,
 ⟨some 55, none, .mov (.t 14)⟩,
 ⟨some 56, none, .len (.t 55)⟩,
 ⟨some 57, none, .bin .sub (.t 56) (.k (.s (.int .i64 1)))⟩,
 ⟨some 58, none, .ixa (.t 54) (.t 57) 1 none⟩,
 ⟨some 59, none, .load (.t 58) 1 false⟩,
 ⟨some 15, none, .mov (.t 59)⟩] [12, 13, 14, 15]) (
 .seq (
 .reg [
 ⟨some 60, none, .mov (.t 14)⟩,
 ⟨some 61, none, .mov (.t 14)⟩,
 ⟨some 62, none, .len (.t 61)⟩,
 ⟨some 63, none, .bin .sub (.t 62) (.k (.s (.int .i64 1)))⟩,
 ⟨some 64, none, .slc (.t 60) none (some (.t 63)) none 1 false⟩,
 ⟨some 14, none, .mov (.t 64)⟩] [12, 13, 14, 15]) (
 .seq (
 .reg [
 ⟨some 66, none, .mov (.t 12)⟩,
 ⟨some 67, none, .mov (.t 15)⟩,
 ⟨some 68, none, .call false 60 0 [.t 66, .t 67]⟩,
 ⟨some 65, none, .mov (.t 68)⟩,
 ⟨some 69, none, .ext (.t 65) 0⟩,
 ⟨some 70, none, .ext (.t 65) 1⟩,
 ⟨some 16, none, .mov (.t 69)⟩,
 ⟨some 17, none, .mov (.t 70)⟩] [12, 13, 14, 15, 16, 17]) (
 .seq (
 .seq (
 .reg [
 ⟨some 71, none, .mov (.t 17)⟩,
 ⟨some 72, none, .un .not (.t 71)⟩,
 ⟨some 73, none, .mov (.t 72)⟩,
 ⟨some 74, some (73, false), .mov (.t 12)⟩,
 ⟨some 75, some (73, false), .mov (.t 15)⟩,
 ⟨some 76, some (73, false), .call false 47 0 [.t 74, .t 75]⟩,
 ⟨some 77, some (73, false), .bin .gtr (.t 76) (.k (.s (.int .i64 0)))⟩,
 ⟨some 78, none, .pick (.t 73) (.k (.s (.bool true))) (.t 77)⟩] [12, 13, 14, 15, 16, 78]) (
 .cond (.t 78) (
 .exit 1) (
 .skip))) (
 .seq (
 .seq (
 .reg [
 ⟨some 79, none, .mov (.t 12)⟩,
 ⟨some 80, none, .mov (.t 16)⟩,
 ⟨some 81, none, .ixa (.t 79) (.t 80) 26 none⟩,
 ⟨some 82, none, .fad (.t 81) 8⟩,
 ⟨some 83, none, .load (.t 82) 1 false⟩,
 ⟨some 84, none, .len (.t 83)⟩,
 ⟨some 85, none, .mov (.k (.s (.int .i64 0)))⟩] [12, 13, 14, 15, 16, 83, 84, 85]) (
 .block 2 (
 .loop (
 .seq (
 .reg [
 ⟨some 86, none, .bin .lss (.t 85) (.t 84)⟩] [12, 13, 14, 15, 16, 83, 84, 85, 86]) (
 .seq (
 .cond (.t 86) (
 .skip) (
 .exit 2)) (
 .seq (
 .block 3 (
 .seq (
 .reg [
 ⟨some 87, none, .ixa (.t 83) (.t 85) 2 none⟩,
 ⟨some 88, none, .load (.t 87) 2 true⟩,
 ⟨some 19, none, .alloc [.s (.int .u64 0), .s (.int .i64 0)]⟩,
 ⟨none, none, .store (.t 19) (.t 88) 2⟩] [12, 13, 14, 15, 16, 19, 83, 84, 85]) (
 .reg [
 ⟨some 89, none, .mov (.t 14)⟩,
 ⟨some 90, none, .fad (.t 19) 0⟩,
 ⟨some 91, none, .load (.t 90) 1 false⟩,
 ⟨some 92, none, .bsl true 1 false [.s (.int .u64 0)] 1 [(0, .t 91)]⟩,
 ⟨some 93, none, .app false (.t 89) (.t 92) 1 8 false⟩,
 ⟨some 14, none, .mov (.t 93)⟩] [12, 13, 14, 15, 16, 83, 84, 85]))) (
 .reg [
 ⟨some 94, none, .bin .add (.t 85) (.k (.s (.int .i64 1)))⟩,
 ⟨some 85, none, .mov (.t 94)⟩] [12, 13, 14, 15, 16, 83, 84, 85]))))))) (
 .seq (
 .reg [
 ⟨some 95, none, .mov (.t 12)⟩,
 ⟨some 96, none, .mov (.t 16)⟩,
 ⟨some 97, none, .mov (.t 16)⟩,
 ⟨some 98, none, .bin .add (.t 97) (.k (.s (.int .i64 1)))⟩,
 ⟨some 99, none, .call true 61 0 [.t 95, .t 96, .t 98]⟩,
 ⟨some 12, none, .mov (.t 99)⟩] [12, 13, 14, 15]) (
 .reg [
 ⟨some 100, none, .mov (.t 13)⟩,
 ⟨some 101, none, .mov (.t 15)⟩,
 ⟨some 102, none, .bsl true 1 false [.s (.int .u64 0)] 1 [(0, .t 101)]⟩,
 ⟨some 103, none, .app false (.t 100) (.t 102) 1 8 false⟩,
 ⟨some 13, none, .mov (.t 103)⟩] [12, 13, 14])))))))))))) (
 .seq (
 .reg [
 ⟨some 104, none, .mov (.t 13)⟩,
 ⟨some 105, none, .call true 62 0 [.t 104]⟩] [12, 13]) (
 .seq (
 .reg [
 ⟨some 106, none, .mov (.t 12)⟩,
 ⟨some 107, none, .mov (.t 13)⟩,
 ⟨some 6, none, .mov (.t 106)⟩,
 ⟨some 7, none, .mov (.t 107)⟩,
 ⟨some 8, none, .mov (.k (.s (.int .i64 0)))⟩] [6, 7, 8]) (
 .ret)))))))))),
 [.t 6, .t 7, .t 8], none⟩

/-- bailey/baileyref13.SameIDs -/
def F30 : FnIR := ⟨26,
 .seq (
 .reg [
 ⟨some 4, none, .mov (.k (.s (.bool false)))⟩] [0, 1]) (
 .seq (
 .seq (
 .reg [
 ⟨some 6, none, .mov (.t 0)⟩,
 ⟨some 7, none, .len (.t 6)⟩,
 ⟨some 8, none, .mov (.t 1)⟩,
 ⟨some 9, none, .len (.t 8)⟩,
 ⟨some 10, none, .bin .neq (.t 7) (.t 9)⟩] [0, 1, 10]) (
 .cond (.t 10) (
 .seq (
 .reg [
 ⟨some 4, none, .mov (.k (.s (.bool false)))⟩] [4]) (
 .ret)) (
 .skip))) (
 .seq (
 .seq (
 .reg [
 ⟨some 11, none, .mov (.t 0)⟩,
 ⟨some 12, none, .len (.t 11)⟩,
 ⟨some 13, none, .mov (.k (.s (.int .i64 0)))⟩] [0, 1, 12, 13]) (
 .block 0 (
 .loop (
 .seq (
 .reg [
 ⟨some 14, none, .bin .lss (.t 13) (.t 12)⟩] [0, 1, 12, 13, 14]) (
 .seq (
 .cond (.t 14) (
 .skip) (
 .exit 0)) (
 .seq (
 .block 1 (
 .seq (
 .reg [
 ⟨some 15, none, .mov (.t 13)⟩,
 ⟨some 5, none, .mov (.t 15)⟩] [0, 1, 5, 12, 13]) (
 .seq (
 .drw [
 ⟨some 16, none, .mov (.t 0)⟩,
 ⟨some 17, none, .mov (.t 5)⟩,
 ⟨some 18, none, .ixa (.t 16) (.t 17) 1 none⟩,
 ⟨some 19, none, .load (.t 18) 1 false⟩,
 ⟨some 20, none, .mov (.t 1)⟩,
 ⟨some 21, none, .mov (.t 5)⟩,
 ⟨some 22, none, .ixa (.t 20) (.t 21) 1 none⟩,
 ⟨some 23, none, .load (.t 22) 1 false⟩,
 ⟨some 24, none, .bin .neq (.t 19) (.t 23)⟩] [] [] [0, 1, 12, 13, 24]) (
 .cond (.t 24) (
 .seq (
 .reg [
 ⟨some 4, none, .mov (.k (.s (.bool false)))⟩] [4]) (
 .ret)) (
 .skip))))) (
 .reg [
 ⟨some 25, none, .bin .add (.t 13) (.k (.s (.int .i64 1)))⟩,
 ⟨some 13, none, .mov (.t 25)⟩] [0, 1, 12, 13]))))))) (
 .seq (
 .reg [
 ⟨some 4, none, .mov (.k (.s (.bool true)))⟩] [4]) (
 .ret)))),
 [.t 4], none⟩

/-- bailey/baileyref13.Graph -/
def F31 : FnIR := ⟨22,
 .seq (
 .reg [
 ⟨some 2, none, .mov (.k (.s (.bool false)))⟩] [0]) (
 .seq (
 .seq (
 .reg [
 ⟨some 3, none, .mov (.k (.s (.int .i64 1)))⟩] [0, 3]) (
 .block 0 (
 .loop (
 .seq (
 .seq (
 .reg [
 ⟨some 4, none, .mov (.t 3)⟩,
 ⟨some 5, none, .mov (.t 0)⟩,
 ⟨some 6, none, .len (.t 5)⟩,
 ⟨some 7, none, .bin .lss (.t 4) (.t 6)⟩] [0, 3, 7]) (
 .cond (.t 7) (
 .skip) (
 .exit 0))) (
 .seq (
 .block 1 (
 .seq (
 .drw [
 ⟨some 10, none, .mov (.t 0)⟩,
 ⟨some 11, none, .mov (.t 3)⟩,
 ⟨some 12, none, .ixa (.t 10) (.t 11) 26 none⟩,
 ⟨some 13, none, .fad (.t 12) 0⟩,
 ⟨some 14, none, .load (.t 13) 1 false⟩,
 ⟨some 15, none, .mov (.t 0)⟩,
 ⟨some 16, none, .mov (.t 3)⟩,
 ⟨some 17, none, .bin .sub (.t 16) (.k (.s (.int .i64 1)))⟩,
 ⟨some 18, none, .ixa (.t 15) (.t 17) 26 none⟩,
 ⟨some 19, none, .fad (.t 18) 0⟩,
 ⟨some 20, none, .load (.t 19) 1 false⟩,
 ⟨some 21, none, .bin .leq (.t 14) (.t 20)⟩] [] [] [0, 3, 21]) (
 .cond (.t 21) (
 .seq (
 .reg [
 ⟨some 2, none, .mov (.k (.s (.bool false)))⟩] [2]) (
 .ret)) (
 .skip)))) (
 .reg [
 ⟨some 8, none, .mov (.t 3)⟩,
 ⟨some 9, none, .bin .add (.t 8) (.k (.s (.int .i64 1)))⟩,
 ⟨some 3, none, .mov (.t 9)⟩] [0, 3])))))) (
 .seq (
 .reg [
 ⟨some 2, none, .mov (.k (.s (.bool true)))⟩] [2]) (
 .ret))),
 [.t 2], none⟩

/-- bailey/baileyref11.Right -/
def F32 : FnIR := ⟨247,
 .seq (
 .reg [
 ⟨some 1, none, .bxl (.t 0)⟩,
 ⟨some 2, none, .mov (.k (.s (.bool false)))⟩] [1]) (
 .seq (
 .seq (
 .reg [
 ⟨some 12, none, .fad (.t 1) 0⟩,
 ⟨some 13, none, .load (.t 12) 1 false⟩,
 ⟨some 14, none, .call false 63 0 [.t 13]⟩,
 ⟨some 15, none, .un .not (.t 14)⟩,
 ⟨some 16, none, .mov (.t 15)⟩,
 ⟨some 17, some (16, false), .fad (.t 1) 2⟩,
 ⟨some 18, some (16, false), .load (.t 17) 2 true⟩,
 ⟨some 19, some (16, false), .call false 64 0 [.t 18]⟩,
 ⟨some 20, some (16, false), .un .not (.t 19)⟩,
 ⟨some 21, none, .pick (.t 16) (.k (.s (.bool true))) (.t 20)⟩,
 ⟨some 22, none, .mov (.t 21)⟩,
 ⟨some 23, some (22, false), .fad (.t 1) 1⟩,
 ⟨some 24, some (22, false), .load (.t 23) 1 false⟩,
 ⟨some 25, some (22, false), .bin .neq (.t 24) (.k (.s (.int .i64 2)))⟩,
 ⟨some 26, some (22, false), .mov (.t 25)⟩,
 ⟨some 27, some (26, true), .fad (.t 1) 1⟩,
 ⟨some 28, some (26, true), .load (.t 27) 1 false⟩,
 ⟨some 29, some (26, true), .bin .neq (.t 28) (.k (.s (.int .i64 3)))⟩,
 ⟨some 30, some (22, false), .pick (.t 26) (.t 29) (.k (.s (.bool false)))⟩,
 ⟨some 31, some (22, false), .mov (.t 30)⟩,
 ⟨some 32, some (31, true), .fad (.t 1) 2⟩,
 ⟨some 33, some (31, true), .load (.t 32) 2 true⟩,
 ⟨some 34, some (31, true), .call false 65 0 [.t 33]⟩,
 ⟨some 35, some (31, true), .un .not (.t 34)⟩,
 ⟨some 36, some (22, false), .pick (.t 31) (.t 35) (.k (.s (.bool false)))⟩,
 ⟨some 37, none, .pick (.t 22) (.k (.s (.bool true))) (.t 36)⟩] [1, 37]) (
 .cond (.t 37) (
 .seq (
 .reg [
 ⟨some 2, none, .mov (.k (.s (.bool false)))⟩] [2]) (
 .ret)) (
 .skip))) (
 .seq (
 .reg [
 ⟨some 38, none, .load (.t 1) 26 true⟩,
 ⟨some 3, none, .alloc [.s (.int .u64 0), .s (.int .i64 0), .s (.int .i64 0), .lit .nil [], .s (.int .i64 0), .lit .nil [], .s (.int .i64 0), .s (.int .i64 0), .lit .nil [], .lit .nil [], .s (.int .u64 0), .s (.int .u64 0), .s (.int .u64 0), .s (.int .u64 0), .s (.int .i64 0), .s (.int .i64 0), .s (.bool false), .s (.int .u64 0), .s (.int .u64 0), .s (.int .u64 0), .s (.int .u64 0), .s (.int .u64 0), .s (.int .u64 0), .s (.int .u64 0), .s (.int .u64 0), .s (.int .u64 0)]⟩,
 ⟨none, none, .store (.t 3) (.t 38) 26⟩] [1, 3]) (
 .seq (
 .reg [
 ⟨some 4, none, .mov (.k (.s (.int .i64 1)))⟩] [1, 3, 4]) (
 .seq (
 .seq (
 .reg [
 ⟨some 39, none, .fad (.t 1) 1⟩,
 ⟨some 40, none, .load (.t 39) 1 false⟩] [1, 3, 4, 40]) (
 .block 0 (
 .seq (
 .reg [
 ⟨some 42, none, .bin .eql (.t 40) (.k (.s (.int .i64 1)))⟩,
 ⟨some 41, none, .mov (.t 42)⟩] [1, 3, 4, 40, 41]) (
 .cond (.t 41) (
 .seq (
 .reg [
 ⟨some 43, none, .fad (.t 3) 7⟩,
 ⟨none, none, .store (.t 43) (.k (.s (.int .i64 0))) 1⟩] [1, 3]) (
 .seq (
 .reg [
 ⟨some 44, none, .fad (.t 3) 8⟩,
 ⟨none, none, .store (.t 44) (.k (.lit .nil [])) 1⟩] [1, 3]) (
 .seq (
 .reg [
 ⟨some 45, none, .fad (.t 1) 6⟩,
 ⟨some 46, none, .load (.t 45) 1 false⟩,
 ⟨some 4, none, .mov (.t 46)⟩] [1, 3, 4]) (
 .seq (
 .reg [
 ⟨some 5, none, .mov (.k (.s (.int .i64 1)))⟩] [1, 3, 4, 5]) (
 .seq (
 .seq (
 .reg [
 ⟨some 47, none, .fad (.t 1) 8⟩,
 ⟨some 48, none, .load (.t 47) 1 false⟩,
 ⟨some 49, none, .len (.t 48)⟩,
 ⟨some 50, none, .mov (.k (.s (.int .i64 0)))⟩] [1, 3, 4, 5, 48, 49, 50]) (
 .block 1 (
 .loop (
 .seq (
 .reg [
 ⟨some 51, none, .bin .lss (.t 50) (.t 49)⟩] [1, 3, 4, 5, 48, 49, 50, 51]) (
 .seq (
 .cond (.t 51) (
 .skip) (
 .exit 1)) (
 .seq (
 .block 2 (
 .seq (
 .reg [
 ⟨some 52, none, .mov (.t 50)⟩,
 ⟨some 53, none, .ixa (.t 48) (.t 50) 2 none⟩,
 ⟨some 54, none, .load (.t 53) 2 true⟩,
 ⟨some 7, none, .alloc [.s (.int .u64 0), .s (.int .i64 0)]⟩,
 ⟨some 6, none, .mov (.t 52)⟩,
 ⟨none, none, .store (.t 7) (.t 54) 2⟩] [1, 3, 4, 5, 6, 7, 48, 49, 50]) (
 .seq (
 .seq (
 .drw [
 ⟨some 55, none, .fad (.t 7) 0⟩,
 ⟨some 56, none, .load (.t 55) 1 false⟩,
 ⟨some 57, none, .call false 63 0 [.t 56]⟩,
 ⟨some 58, none, .un .not (.t 57)⟩,
 ⟨some 59, none, .mov (.t 58)⟩,
 ⟨some 60, some (59, false), .fad (.t 7) 1⟩,
 ⟨some 61, some (59, false), .load (.t 60) 1 false⟩,
 ⟨some 62, some (59, false), .bin .lss (.t 61) (.k (.s (.int .i64 1)))⟩,
 ⟨some 63, none, .pick (.t 59) (.k (.s (.bool true))) (.t 62)⟩,
 ⟨some 64, none, .mov (.t 63)⟩,
 ⟨some 65, some (64, false), .fad (.t 7) 1⟩,
 ⟨some 66, some (64, false), .load (.t 65) 1 false⟩,
 ⟨some 67, some (64, false), .bin .gtr (.t 66) (.k (.s (.int .i64 48)))⟩,
 ⟨some 68, none, .pick (.t 64) (.k (.s (.bool true))) (.t 67)⟩,
 ⟨some 69, none, .mov (.t 68)⟩,
 ⟨some 70, some (69, false), .mov (.t 6)⟩,
 ⟨some 71, some (69, false), .bin .gtr (.t 70) (.k (.s (.int .i64 0)))⟩,
 ⟨some 72, some (69, false), .mov (.t 71)⟩,
 ⟨some 73, some (72, true), .fad (.t 1) 8⟩,
 ⟨some 74, some (72, true), .load (.t 73) 1 false⟩,
 ⟨some 75, some (72, true), .mov (.t 6)⟩,
 ⟨some 76, some (72, true), .bin .sub (.t 75) (.k (.s (.int .i64 1)))⟩,
 ⟨some 77, some (72, true), .ixa (.t 74) (.t 76) 2 none⟩,
 ⟨some 78, some (72, true), .fad (.t 77) 0⟩,
 ⟨some 79, some (72, true), .load (.t 78) 1 false⟩,
 ⟨some 80, some (72, true), .fad (.t 7) 0⟩,
 ⟨some 81, some (72, true), .load (.t 80) 1 false⟩,
 ⟨some 82, some (72, true), .bin .geq (.t 79) (.t 81)⟩,
 ⟨some 83, some (69, false), .pick (.t 72) (.t 82) (.k (.s (.bool false)))⟩,
 ⟨some 84, none, .pick (.t 69) (.k (.s (.bool true))) (.t 83)⟩,
 ⟨some 85, none, .mov (.t 84)⟩,
 ⟨some 86, some (85, false), .mov (.t 6)⟩,
 ⟨some 87, some (85, false), .bin .geq (.t 86) (.k (.s (.int .i64 16)))⟩,
 ⟨some 88, none, .pick (.t 85) (.k (.s (.bool true))) (.t 87)⟩] [2] [] [1, 3, 4, 5, 7, 48, 49, 50, 88]) (
 .cond (.t 88) (
 .seq (
 .reg [
 ⟨some 2, none, .mov (.k (.s (.bool false)))⟩] [2]) (
 .ret)) (
 .skip))) (
 .reg [
 ⟨some 89, none, .mov (.t 5)⟩,
 ⟨some 90, none, .fad (.t 7) 1⟩,
 ⟨some 91, none, .load (.t 90) 1 false⟩,
 ⟨some 92, none, .bin .add (.t 89) (.t 91)⟩,
 ⟨some 5, none, .mov (.t 92)⟩] [1, 3, 4, 5, 48, 49, 50])))) (
 .reg [
 ⟨some 93, none, .bin .add (.t 50) (.k (.s (.int .i64 1)))⟩,
 ⟨some 50, none, .mov (.t 93)⟩] [1, 3, 4, 5, 48, 49, 50]))))))) (
 .seq (
 .reg [
 ⟨some 94, none, .fad (.t 1) 6⟩,
 ⟨some 95, none, .load (.t 94) 1 false⟩,
 ⟨some 96, none, .bin .lss (.t 95) (.k (.s (.int .i64 1)))⟩,
 ⟨some 97, none, .mov (.t 96)⟩,
 ⟨some 98, some (97, false), .fad (.t 1) 6⟩,
 ⟨some 99, some (97, false), .load (.t 98) 1 false⟩,
 ⟨some 100, some (97, false), .bin .gtr (.t 99) (.k (.s (.int .i64 48)))⟩,
 ⟨some 101, none, .pick (.t 97) (.k (.s (.bool true))) (.t 100)⟩,
 ⟨some 102, none, .mov (.t 101)⟩,
 ⟨some 103, some (102, false), .mov (.t 5)⟩,
 ⟨some 104, some (102, false), .fad (.t 1) 6⟩,
 ⟨some 105, some (102, false), .load (.t 104) 1 false⟩,
 ⟨some 106, some (102, false), .bin .gtr (.t 103) (.t 105)⟩,
 ⟨some 107, none, .pick (.t 102) (.k (.s (.bool true))) (.t 106)⟩,
 ⟨some 108, none, .mov (.t 107)⟩,
 ⟨some 109, some (108, false), .fad (.t 1) 7⟩,
 ⟨some 110, some (108, false), .load (.t 109) 1 false⟩,
 ⟨some 111, some (108, false), .bin .lss (.t 110) (.k (.s (.int .i64 0)))⟩,
 ⟨some 112, none, .pick (.t 108) (.k (.s (.bool true))) (.t 111)⟩,
 ⟨some 113, none, .mov (.t 112)⟩,
 ⟨some 114, some (113, false), .fad (.t 1) 7⟩,
 ⟨some 115, some (113, false), .load (.t 114) 1 false⟩,
 ⟨some 116, some (113, false), .bin .gtr (.t 115) (.k (.s (.int .i64 63)))⟩,
 ⟨some 117, none, .pick (.t 113) (.k (.s (.bool true))) (.t 116)⟩] [1, 3, 4, 117]) (
 .cond (.t 117) (
 .seq (
 .reg [
 ⟨some 2, none, .mov (.k (.s (.bool false)))⟩] [2]) (
 .ret)) (
 .skip)))))))) (
 .seq (
 .reg [
 ⟨some 119, none, .bin .eql (.t 40) (.k (.s (.int .i64 2)))⟩,
 ⟨some 118, none, .mov (.t 119)⟩] [1, 3, 4, 40, 118]) (
 .cond (.t 118) (
 .seq (
 .seq (
 .reg [
 ⟨some 120, none, .fad (.t 1) 10⟩,
 ⟨some 121, none, .load (.t 120) 4 true⟩,
 ⟨some 122, none, .mov (.k (.s (.int .i64 0)))⟩] [1, 3, 4, 121, 122]) (
 .block 3 (
 .loop (
 .seq (
 .reg [
 ⟨some 123, none, .bin .lss (.t 122) (.k (.s (.int .i64 4)))⟩] [1, 3, 4, 121, 122, 123]) (
 .seq (
 .cond (.t 123) (
 .skip) (
 .exit 3)) (
 .seq (
 .block 4 (
 .seq (
 .reg [
 ⟨some 124, none, .idx (.t 121) (.t 122) 1 4 false⟩,
 ⟨some 9, none, .mov (.t 124)⟩] [1, 3, 4, 9, 121, 122]) (
 .seq (
 .reg [
 ⟨some 125, none, .mov (.t 9)⟩,
 ⟨some 126, none, .call false 66 0 [.t 125]⟩,
 ⟨some 127, none, .mov (.t 9)⟩,
 ⟨some 128, none, .bin .neq (.t 126) (.t 127)⟩] [1, 3, 4, 121, 122, 128]) (
 .cond (.t 128) (
 .seq (
 .reg [
 ⟨some 2, none, .mov (.k (.s (.bool false)))⟩] [2]) (
 .ret)) (
 .skip))))) (
 .reg [
 ⟨some 129, none, .bin .add (.t 122) (.k (.s (.int .i64 1)))⟩,
 ⟨some 122, none, .mov (.t 129)⟩] [1, 3, 4, 121, 122]))))))) (
 .seq (
 .seq (
 .reg [
 ⟨some 130, none, .fad (.t 1) 4⟩,
 ⟨some 131, none, .load (.t 130) 2 true⟩,
 ⟨some 132, none, .call false 67 0 [.t 131]⟩,
 ⟨some 133, none, .un .not (.t 132)⟩,
 ⟨some 134, none, .mov (.t 133)⟩,
 ⟨some 135, some (134, false), .fad (.t 1) 14⟩,
 ⟨some 136, some (134, false), .load (.t 135) 1 false⟩,
 ⟨some 137, some (134, false), .bin .lss (.t 136) (.k (.s (.int .i64 0)))⟩,
 ⟨some 138, none, .pick (.t 134) (.k (.s (.bool true))) (.t 137)⟩,
 ⟨some 139, none, .mov (.t 138)⟩,
 ⟨some 140, some (139, false), .fad (.t 1) 14⟩,
 ⟨some 141, some (139, false), .load (.t 140) 1 false⟩,
 ⟨some 142, some (139, false), .bin .gtr (.t 141) (.k (.s (.int .i64 31)))⟩,
 ⟨some 143, none, .pick (.t 139) (.k (.s (.bool true))) (.t 142)⟩,
 ⟨some 144, none, .mov (.t 143)⟩,
 ⟨some 145, some (144, false), .fad (.t 1) 15⟩,
 ⟨some 146, some (144, false), .load (.t 145) 1 false⟩,
 ⟨some 147, some (144, false), .bin .lss (.t 146) (.k (.s (.int .i64 0)))⟩,
 ⟨some 148, none, .pick (.t 144) (.k (.s (.bool true))) (.t 147)⟩,
 ⟨some 149, none, .mov (.t 148)⟩,
 ⟨some 150, some (149, false), .fad (.t 1) 15⟩,
 ⟨some 151, some (149, false), .load (.t 150) 1 false⟩,
 ⟨some 152, some (149, false), .bin .gtr (.t 151) (.k (.s (.int .i64 255)))⟩,
 ⟨some 153, none, .pick (.t 149) (.k (.s (.bool true))) (.t 152)⟩] [1, 3, 4, 153]) (
 .cond (.t 153) (
 .seq (
 .reg [
 ⟨some 2, none, .mov (.k (.s (.bool false)))⟩] [2]) (
 .ret)) (
 .skip))) (
 .seq (
 .reg [
 ⟨some 154, none, .build [.s (.int .i64 0), .lit .nil []] []⟩,
 ⟨some 155, none, .fad (.t 3) 4⟩,
 ⟨none, none, .store (.t 155) (.t 154) 2⟩] [1, 3, 4]) (
 .seq (
 .reg [
 ⟨some 156, none, .build [.s (.int .u64 0), .s (.int .u64 0), .s (.int .u64 0), .s (.int .u64 0)] []⟩,
 ⟨some 157, none, .fad (.t 3) 10⟩,
 ⟨none, none, .store (.t 157) (.t 156) 4⟩] [1, 3, 4]) (
 .seq (
 .reg [
 ⟨some 158, none, .fad (.t 3) 14⟩,
 ⟨none, none, .store (.t 158) (.k (.s (.int .i64 0))) 1⟩] [1, 3, 4]) (
 .seq (
 .reg [
 ⟨some 159, none, .fad (.t 3) 15⟩,
 ⟨none, none, .store (.t 159) (.k (.s (.int .i64 0))) 1⟩] [1, 3, 4]) (
 .reg [
 ⟨some 160, none, .fad (.t 3) 16⟩,
 ⟨none, none, .store (.t 160) (.k (.s (.bool false))) 1⟩] [1, 3, 4]))))))) (
 .seq (
 .reg [
 ⟨some 162, none, .bin .eql (.t 40) (.k (.s (.int .i64 3)))⟩,
 ⟨some 161, none, .mov (.t 162)⟩] [1, 3, 4, 40, 161]) (
 .cond (.t 161) (
 .seq (
 .seq (
 .drw [
 ⟨some 163, none, .fad (.t 1) 4⟩,
 ⟨some 164, none, .load (.t 163) 2 true⟩,
 ⟨some 165, none, .call false 67 0 [.t 164]⟩,
 ⟨some 166, none, .un .not (.t 165)⟩,
 ⟨some 167, none, .mov (.t 166)⟩,
 ⟨some 168, some (167, false), .fad (.t 1) 17⟩,
 ⟨some 169, some (167, false), .load (.t 168) 1 false⟩,
 ⟨some 170, some (167, false), .call false 66 0 [.t 169]⟩,
 ⟨some 171, some (167, false), .fad (.t 1) 17⟩,
 ⟨some 172, some (167, false), .load (.t 171) 1 false⟩,
 ⟨some 173, some (167, false), .bin .neq (.t 170) (.t 172)⟩,
 ⟨some 174, none, .pick (.t 167) (.k (.s (.bool true))) (.t 173)⟩] [2] [] [1, 3, 4, 174]) (
 .cond (.t 174) (
 .seq (
 .reg [
 ⟨some 2, none, .mov (.k (.s (.bool false)))⟩] [2]) (
 .ret)) (
 .skip))) (
 .seq (
 .reg [
 ⟨some 175, none, .build [.s (.int .i64 0), .lit .nil []] []⟩,
 ⟨some 176, none, .fad (.t 3) 4⟩,
 ⟨none, none, .store (.t 176) (.t 175) 2⟩] [1, 3, 4]) (
 .reg [
 ⟨some 177, none, .fad (.t 3) 17⟩,
 ⟨none, none, .store (.t 177) (.k (.s (.int .u64 0))) 1⟩] [1, 3, 4]))) (
 .seq (
 .reg [
 ⟨some 179, none, .bin .eql (.t 40) (.k (.s (.int .i64 4)))⟩,
 ⟨some 178, none, .mov (.t 179)⟩] [1, 3, 4, 40, 178]) (
 .cond (.t 178) (
 .seq (
 .reg [
 ⟨some 180, none, .fad (.t 1) 9⟩,
 ⟨some 181, none, .load (.t 180) 1 false⟩,
 ⟨some 182, none, .len (.t 181)⟩,
 ⟨some 183, none, .bin .quo (.t 182) (.k (.s (.int .i64 32)))⟩,
 ⟨some 184, none, .bin .add (.k (.s (.int .i64 1))) (.t 183)⟩,
 ⟨some 4, none, .mov (.t 184)⟩] [1, 3, 4]) (
 .seq (
 .seq (
 .reg [
 ⟨some 185, none, .fad (.t 1) 9⟩,
 ⟨some 186, none, .load (.t 185) 1 false⟩,
 ⟨some 187, none, .len (.t 186)⟩,
 ⟨some 188, none, .bin .lss (.t 187) (.k (.s (.int .i64 32)))⟩,
 ⟨some 189, none, .mov (.t 188)⟩,
 ⟨some 190, some (189, false), .fad (.t 1) 9⟩,
 ⟨some 191, some (189, false), .load (.t 190) 1 false⟩,
 ⟨some 192, some (189, false), .len (.t 191)⟩,
 ⟨some 193, some (189, false), .bin .gtr (.t 192) (.k (.s (.int .i64 128)))⟩,
 ⟨some 194, none, .pick (.t 189) (.k (.s (.bool true))) (.t 193)⟩,
 ⟨some 195, none, .mov (.t 194)⟩,
 ⟨some 196, some (195, false), .fad (.t 1) 9⟩,
 ⟨some 197, some (195, false), .load (.t 196) 1 false⟩,
 ⟨some 198, some (195, false), .len (.t 197)⟩,
 ⟨some 199, some (195, false), .bin .rem (.t 198) (.k (.s (.int .i64 32)))⟩,
 ⟨some 200, some (195, false), .bin .neq (.t 199) (.k (.s (.int .i64 0)))⟩,
 ⟨some 201, none, .pick (.t 195) (.k (.s (.bool true))) (.t 200)⟩] [1, 3, 4, 201]) (
 .cond (.t 201) (
 .seq (
 .reg [
 ⟨some 2, none, .mov (.k (.s (.bool false)))⟩] [2]) (
 .ret)) (
 .skip))) (
 .reg [
 ⟨some 202, none, .fad (.t 3) 9⟩,
 ⟨none, none, .store (.t 202) (.k (.lit .nil [])) 1⟩] [1, 3, 4]))) (
 .seq (
 .reg [
 ⟨some 204, none, .bin .eql (.t 40) (.k (.s (.int .i64 5)))⟩,
 ⟨some 203, none, .mov (.t 204)⟩] [1, 3, 4, 40, 203]) (
 .cond (.t 203) (
 .seq (
 .seq (
 .reg [
 ⟨some 205, none, .fad (.t 1) 18⟩,
 ⟨some 206, none, .load (.t 205) 8 true⟩,
 ⟨some 207, none, .mov (.k (.s (.int .i64 0)))⟩] [1, 3, 4, 206, 207]) (
 .block 5 (
 .loop (
 .seq (
 .reg [
 ⟨some 208, none, .bin .lss (.t 207) (.k (.s (.int .i64 4)))⟩] [1, 3, 4, 206, 207, 208]) (
 .seq (
 .cond (.t 208) (
 .skip) (
 .exit 5)) (
 .seq (
 .block 6 (
 .seq (
 .reg [
 ⟨some 209, none, .idx (.t 206) (.t 207) 2 4 true⟩,
 ⟨some 11, none, .alloc [.s (.int .u64 0), .s (.int .u64 0)]⟩,
 ⟨none, none, .store (.t 11) (.t 209) 2⟩] [1, 3, 4, 11, 206, 207]) (
 .seq (
 .reg [
 ⟨some 210, none, .load (.t 11) 2 true⟩,
 ⟨some 211, none, .build [.s (.int .u64 0), .s (.int .u64 0)] []⟩,
 ⟨some 212, none, .eqk (.cells [.i, .i]) true (.t 210) (.t 211)⟩,
 ⟨some 213, none, .mov (.t 212)⟩,
 ⟨some 214, some (213, true), .fad (.t 11) 0⟩,
 ⟨some 215, some (213, true), .load (.t 214) 1 false⟩,
 ⟨some 216, some (213, true), .call false 63 0 [.t 215]⟩,
 ⟨some 217, some (213, true), .un .not (.t 216)⟩,
 ⟨some 218, some (213, true), .mov (.t 217)⟩,
 ⟨some 219, some (218, false), .fad (.t 11) 1⟩,
 ⟨some 220, some (218, false), .load (.t 219) 1 false⟩,
 ⟨some 221, some (218, false), .call false 63 0 [.t 220]⟩,
 ⟨some 222, some (218, false), .un .not (.t 221)⟩,
 ⟨some 223, some (213, true), .pick (.t 218) (.k (.s (.bool true))) (.t 222)⟩,
 ⟨some 224, none, .pick (.t 213) (.t 223) (.k (.s (.bool false)))⟩] [1, 3, 4, 206, 207, 224]) (
 .cond (.t 224) (
 .seq (
 .reg [
 ⟨some 2, none, .mov (.k (.s (.bool false)))⟩] [2]) (
 .ret)) (
 .skip))))) (
 .reg [
 ⟨some 225, none, .bin .add (.t 207) (.k (.s (.int .i64 1)))⟩,
 ⟨some 207, none, .mov (.t 225)⟩] [1, 3, 4, 206, 207]))))))) (
 .reg [
 ⟨some 226, none, .build [.s (.int .u64 0), .s (.int .u64 0), .s (.int .u64 0), .s (.int .u64 0), .s (.int .u64 0), .s (.int .u64 0), .s (.int .u64 0), .s (.int .u64 0)] []⟩,
 ⟨some 227, none, .fad (.t 3) 18⟩,
 ⟨none, none, .store (.t 227) (.t 226) 8⟩] [1, 3, 4])) (
 .seq (
 .reg [
 ⟨some 229, none, .bin .eql (.t 40) (.k (.s (.int .i64 6)))⟩,
 ⟨some 228, none, .mov (.t 229)⟩] [1, 3, 4, 228]) (
 .cond (.t 228) (
 .skip) (
 .seq (
 .reg [
 ⟨some 2, none, .mov (.k (.s (.bool false)))⟩] [2]) (
 .ret)))))))))))))))) (
 .seq (
 .reg [
 ⟨some 230, none, .fad (.t 1) 6⟩,
 ⟨some 231, none, .load (.t 230) 1 false⟩,
 ⟨some 232, none, .mov (.t 4)⟩,
 ⟨some 233, none, .bin .eql (.t 231) (.t 232)⟩,
 ⟨some 234, none, .mov (.t 233)⟩,
 ⟨some 235, some (234, true), .load (.t 3) 26 true⟩,
 ⟨some 236, some (234, true), .fad (.t 1) 0⟩,
 ⟨some 237, some (234, true), .load (.t 236) 1 false⟩,
 ⟨some 238, some (234, true), .fad (.t 1) 1⟩,
 ⟨some 239, some (234, true), .load (.t 238) 1 false⟩,
 ⟨some 240, some (234, true), .fad (.t 1) 2⟩,
 ⟨some 241, some (234, true), .load (.t 240) 2 true⟩,
 ⟨some 242, some (234, true), .fad (.t 1) 6⟩,
 ⟨some 243, some (234, true), .load (.t 242) 1 false⟩,
 ⟨some 244, some (234, true), .build [.s (.int .u64 0), .s (.int .i64 0), .s (.int .i64 0), .lit .nil [], .s (.int .i64 0), .lit .nil [], .s (.int .i64 0), .s (.int .i64 0), .lit .nil [], .lit .nil [], .s (.int .u64 0), .s (.int .u64 0), .s (.int .u64 0), .s (.int .u64 0), .s (.int .i64 0), .s (.int .i64 0), .s (.bool false), .s (.int .u64 0), .s (.int .u64 0), .s (.int .u64 0), .s (.int .u64 0), .s (.int .u64 0), .s (.int .u64 0), .s (.int .u64 0), .s (.int .u64 0), .s (.int .u64 0)] [(0, 1, .t 237), (1, 1, .t 239), (2, 2, .t 241), (6, 1, .t 243)]⟩,
 ⟨some 245, some (234, true), .call false 27 0 [.t 235, .t 244]⟩,
 ⟨some 246, none, .pick (.t 234) (.t 245) (.k (.s (.bool false)))⟩,
 ⟨some 2, none, .mov (.t 246)⟩] [2]) (
 .ret)))))),
 [.t 2], none⟩

/-- bailey/baileyref11.Copy -/
def F33 : FnIR := ⟨22,
 .seq (
 .reg [
 ⟨some 1, none, .box (.t 0)⟩,
 ⟨some 2, none, .alloc [.s (.int .u64 0), .s (.int .i64 0), .s (.int .i64 0), .lit .nil [], .s (.int .i64 0), .lit .nil [], .s (.int .i64 0), .s (.int .i64 0), .lit .nil [], .lit .nil [], .s (.int .u64 0), .s (.int .u64 0), .s (.int .u64 0), .s (.int .u64 0), .s (.int .i64 0), .s (.int .i64 0), .s (.bool false), .s (.int .u64 0), .s (.int .u64 0), .s (.int .u64 0), .s (.int .u64 0), .s (.int .u64 0), .s (.int .u64 0), .s (.int .u64 0), .s (.int .u64 0), .s (.int .u64 0)]⟩] [1, 2]) (
 .seq (
 .reg [
 ⟨some 3, none, .fad (.t 1) 2⟩,
 ⟨some 4, none, .load (.t 3) 2 true⟩,
 ⟨some 5, none, .call false 68 0 [.t 4]⟩,
 ⟨some 6, none, .fad (.t 1) 2⟩,
 ⟨none, none, .store (.t 6) (.t 5) 2⟩] [1, 2]) (
 .seq (
 .reg [
 ⟨some 7, none, .fad (.t 1) 4⟩,
 ⟨some 8, none, .load (.t 7) 2 true⟩,
 ⟨some 9, none, .call false 68 0 [.t 8]⟩,
 ⟨some 10, none, .fad (.t 1) 4⟩,
 ⟨none, none, .store (.t 10) (.t 9) 2⟩] [1, 2]) (
 .seq (
 .reg [
 ⟨some 11, none, .bsl true 2 true [.s (.int .u64 0), .s (.int .i64 0)] 0 []⟩,
 ⟨some 12, none, .fad (.t 1) 8⟩,
 ⟨some 13, none, .load (.t 12) 1 false⟩,
 ⟨some 14, none, .app false (.t 11) (.t 13) 2 16 true⟩,
 ⟨some 15, none, .fad (.t 1) 8⟩,
 ⟨none, none, .store (.t 15) (.t 14) 1⟩] [1, 2]) (
 .seq (
 .reg [
 ⟨some 16, none, .bsl true 1 false [.s (.int .u8 0)] 0 []⟩,
 ⟨some 17, none, .fad (.t 1) 9⟩,
 ⟨some 18, none, .load (.t 17) 1 false⟩,
 ⟨some 19, none, .app false (.t 16) (.t 18) 1 1 false⟩,
 ⟨some 20, none, .fad (.t 1) 9⟩,
 ⟨none, none, .store (.t 20) (.t 19) 1⟩] [1, 2]) (
 .seq (
 .reg [
 ⟨some 21, none, .load (.t 1) 26 true⟩,
 ⟨none, none, .store (.t 2) (.t 21) 26⟩] [2]) (
 .ret)))))),
 [.c 2 26 true], none⟩

/-- bailey/graph.copyAll -/
def F34 : FnIR := ⟨19,
 .seq (
 .reg [
 ⟨some 2, none, .mov (.k (.lit .nil []))⟩] [0]) (
 .seq (
 .reg [
 ⟨some 3, none, .mov (.k (.lit .nil []))⟩] [0, 3]) (
 .seq (
 .seq (
 .reg [
 ⟨some 6, none, .mov (.t 0)⟩,
 ⟨some 7, none, .len (.t 6)⟩,
 ⟨some 8, none, .mov (.k (.s (.int .i64 0)))⟩] [3, 6, 7, 8]) (
 .block 0 (
 .loop (
 .seq (
 .reg [
 ⟨some 9, none, .bin .lss (.t 8) (.t 7)⟩] [3, 6, 7, 8, 9]) (
 .seq (
 .cond (.t 9) (
 .skip) (
 .exit 0)) (
 .seq (
 .block 1 (
 .seq (
 .reg [
 ⟨some 10, none, .ixa (.t 6) (.t 8) 26 none⟩,
 ⟨some 11, none, .load (.t 10) 26 true⟩,
 ⟨some 5, none, .alloc [.s (.int .u64 0), .s (.int .i64 0), .s (.int .i64 0), .lit .nil [], .s (.int .i64 0), .lit .nil [], .s (.int .i64 0), .s (.int .i64 0), .lit .nil [], .lit .nil [], .s (.int .u64 0), .s (.int .u64 0), .s (.int .u64 0), .s (.int .u64 0), .s (.int .i64 0), .s (.int .i64 0), .s (.bool false), .s (.int .u64 0), .s (.int .u64 0), .s (.int .u64 0), .s (.int .u64 0), .s (.int .u64 0), .s (.int .u64 0), .s (.int .u64 0), .s (.int .u64 0), .s (.int .u64 0)]⟩,
 ⟨none, none, .store (.t 5) (.t 11) 26⟩] [3, 5, 6, 7, 8]) (
 .reg [
 ⟨some 12, none, .mov (.t 3)⟩,
 ⟨some 13, none, .load (.t 5) 26 true⟩,
 ⟨some 14, none, .call false 55 0 [.t 13]⟩,
 ⟨some 15, none, .bsl false 26 true [.s (.int .u64 0), .s (.int .i64 0), .s (.int .i64 0), .lit .nil [], .s (.int .i64 0), .lit .nil [], .s (.int .i64 0), .s (.int .i64 0), .lit .nil [], .lit .nil [], .s (.int .u64 0), .s (.int .u64 0), .s (.int .u64 0), .s (.int .u64 0), .s (.int .i64 0), .s (.int .i64 0), .s (.bool false), .s (.int .u64 0), .s (.int .u64 0), .s (.int .u64 0), .s (.int .u64 0), .s (.int .u64 0), .s (.int .u64 0), .s (.int .u64 0), .s (.int .u64 0), .s (.int .u64 0)] 1 [(0, .t 14)]⟩,
 ⟨some 16, none, .app false (.t 12) (.t 15) 26 272 true⟩,
 ⟨some 3, none, .mov (.t 16)⟩] [3, 6, 7, 8]))) (
 .reg [
 ⟨some 17, none, .bin .add (.t 8) (.k (.s (.int .i64 1)))⟩,
 ⟨some 8, none, .mov (.t 17)⟩] [3, 6, 7, 8]))))))) (
 .seq (
 .reg [
 ⟨some 18, none, .mov (.t 3)⟩,
 ⟨some 2, none, .mov (.t 18)⟩] [2]) (
 .ret)))),
 [.t 2], none⟩

/-- slices.Clone[[]bailey/api.Link,bailey/api.Link] -/
def F36 : FnIR := ⟨8,
 .seq (
 .reg [
 ⟨some 2, none, .mov (.k (.lit .nil []))⟩] [0]) (
 .seq (
 .seq (
 .reg [
 ⟨some 3, none, .mov (.t 0)⟩,
 ⟨some 4, none, .eqk .nils false (.t 3) (.k (.lit .nil []))⟩] [0, 4]) (
 .cond (.t 4) (
 .seq (
 .reg [
 ⟨some 2, none, .mov (.k (.lit .nil []))⟩] [2]) (
 .ret)) (
 .skip))) (
 .seq (
 .reg [
 ⟨some 5, none, .bsl true 2 true [.s (.int .u64 0), .s (.int .i64 0)] 0 []⟩,
 ⟨some 6, none, .mov (.t 0)⟩,
 ⟨some 7, none, .app false (.t 5) (.t 6) 2 16 true⟩,
 ⟨some 2, none, .mov (.t 7)⟩] [2]) (
 .ret))),
 [.t 2], none⟩

/-- bailey/graph.Find -/
def F39 : FnIR := ⟨21,
 .seq (
 .reg [
 ⟨some 4, none, .alloc [.s (.int .u64 0), .s (.int .i64 0), .s (.int .i64 0), .lit .nil [], .s (.int .i64 0), .lit .nil [], .s (.int .i64 0), .s (.int .i64 0), .lit .nil [], .lit .nil [], .s (.int .u64 0), .s (.int .u64 0), .s (.int .u64 0), .s (.int .u64 0), .s (.int .i64 0), .s (.int .i64 0), .s (.bool false), .s (.int .u64 0), .s (.int .u64 0), .s (.int .u64 0), .s (.int .u64 0), .s (.int .u64 0), .s (.int .u64 0), .s (.int .u64 0), .s (.int .u64 0), .s (.int .u64 0)]⟩,
 ⟨some 5, none, .mov (.k (.s (.bool false)))⟩] [0, 1, 4]) (
 .seq (
 .seq (
 .reg [
 ⟨some 9, none, .mov (.t 0)⟩,
 ⟨some 10, none, .mov (.t 1)⟩,
 ⟨some 11, none, .call false 60 0 [.t 9, .t 10]⟩,
 ⟨some 8, none, .mov (.t 11)⟩,
 ⟨some 12, none, .ext (.t 8) 0⟩,
 ⟨some 13, none, .ext (.t 8) 1⟩,
 ⟨some 6, none, .mov (.t 12)⟩,
 ⟨some 7, none, .mov (.t 13)⟩] [0, 4, 6, 7]) (
 .seq (
 .reg [
 ⟨some 14, none, .mov (.t 7)⟩] [0, 4, 6, 14]) (
 .cond (.t 14) (
 .seq (
 .reg [
 ⟨some 15, none, .mov (.t 0)⟩,
 ⟨some 16, none, .mov (.t 6)⟩,
 ⟨some 17, none, .ixa (.t 15) (.t 16) 26 none⟩,
 ⟨some 18, none, .load (.t 17) 26 true⟩,
 ⟨some 19, none, .call false 55 0 [.t 18]⟩,
 ⟨none, none, .store (.t 4) (.t 19) 26⟩,
 ⟨some 5, none, .mov (.k (.s (.bool true)))⟩] [4, 5]) (
 .ret)) (
 .skip)))) (
 .seq (
 .reg [
 ⟨some 20, none, .build [.s (.int .u64 0), .s (.int .i64 0), .s (.int .i64 0), .lit .nil [], .s (.int .i64 0), .lit .nil [], .s (.int .i64 0), .s (.int .i64 0), .lit .nil [], .lit .nil [], .s (.int .u64 0), .s (.int .u64 0), .s (.int .u64 0), .s (.int .u64 0), .s (.int .i64 0), .s (.int .i64 0), .s (.bool false), .s (.int .u64 0), .s (.int .u64 0), .s (.int .u64 0), .s (.int .u64 0), .s (.int .u64 0), .s (.int .u64 0), .s (.int .u64 0), .s (.int .u64 0), .s (.int .u64 0)] []⟩,
 ⟨none, none, .store (.t 4) (.t 20) 26⟩,
 ⟨some 5, none, .mov (.k (.s (.bool false)))⟩] [4, 5]) (
 .ret))),
 [.c 4 26 true, .t 5], none⟩

/-- bailey/baileyref13.Fits -/
def F43 : FnIR := ⟨36,
 .seq (
 .reg [
 ⟨some 4, none, .bxl (.t 1)⟩,
 ⟨some 5, none, .bxl (.t 2)⟩,
 ⟨some 6, none, .mov (.k (.s (.bool false)))⟩] [0, 4, 5]) (
 .seq (
 .reg [
 ⟨some 10, none, .mov (.t 0)⟩,
 ⟨some 11, none, .fad (.t 5) 0⟩,
 ⟨some 12, none, .load (.t 11) 1 false⟩,
 ⟨some 13, none, .call false 25 0 [.t 10, .t 12]⟩,
 ⟨some 9, none, .mov (.t 13)⟩,
 ⟨some 14, none, .ext (.t 9) 0⟩,
 ⟨some 15, none, .ext (.t 9) 1⟩,
 ⟨some 7, none, .alloc [.s (.int .u64 0), .s (.int .i64 0), .s (.int .i64 0), .lit .nil [], .s (.int .i64 0), .lit .nil [], .s (.int .i64 0), .s (.int .i64 0), .lit .nil [], .lit .nil [], .s (.int .u64 0), .s (.int .u64 0), .s (.int .u64 0), .s (.int .u64 0), .s (.int .i64 0), .s (.int .i64 0), .s (.bool false), .s (.int .u64 0), .s (.int .u64 0), .s (.int .u64 0), .s (.int .u64 0), .s (.int .u64 0), .s (.int .u64 0), .s (.int .u64 0), .s (.int .u64 0), .s (.int .u64 0)]⟩,
 ⟨none, none, .store (.t 7) (.t 14) 26⟩,
 ⟨some 8, none, .mov (.t 15)⟩] [4, 5, 7, 8]) (
 .seq (
 .seq (
 .reg [
 ⟨some 16, none, .mov (.t 8)⟩,
 ⟨some 17, none, .un .not (.t 16)⟩,
 ⟨some 18, none, .mov (.t 17)⟩,
 ⟨some 19, some (18, false), .fad (.t 7) 6⟩,
 ⟨some 20, some (18, false), .load (.t 19) 1 false⟩,
 ⟨some 21, some (18, false), .fad (.t 5) 1⟩,
 ⟨some 22, some (18, false), .load (.t 21) 1 false⟩,
 ⟨some 23, some (18, false), .bin .neq (.t 20) (.t 22)⟩,
 ⟨some 24, none, .pick (.t 18) (.k (.s (.bool true))) (.t 23)⟩] [4, 7, 24]) (
 .cond (.t 24) (
 .seq (
 .reg [
 ⟨some 6, none, .mov (.k (.s (.bool false)))⟩] [6]) (
 .ret)) (
 .skip))) (
 .seq (
 .reg [
 ⟨some 25, none, .fad (.t 7) 1⟩,
 ⟨some 26, none, .load (.t 25) 1 false⟩,
 ⟨some 27, none, .bin .neq (.t 26) (.k (.s (.int .i64 1)))⟩,
 ⟨some 28, none, .mov (.t 27)⟩,
 ⟨some 29, some (28, false), .fad (.t 7) 0⟩,
 ⟨some 30, some (28, false), .load (.t 29) 1 false⟩,
 ⟨some 31, some (28, false), .bin .quo (.t 30) (.k (.s (.int .u64 64)))⟩,
 ⟨some 32, some (28, false), .fad (.t 4) 0⟩,
 ⟨some 33, some (28, false), .load (.t 32) 1 false⟩,
 ⟨some 34, some (28, false), .bin .eql (.t 31) (.t 33)⟩,
 ⟨some 35, none, .pick (.t 28) (.k (.s (.bool true))) (.t 34)⟩,
 ⟨some 6, none, .mov (.t 35)⟩] [6]) (
 .ret)))),
 [.t 6], none⟩

/-- bailey/baileyref12.Has -/
def F44 : FnIR := ⟨19,
 .seq (
 .reg [
 ⟨some 2, none, .bxl (.t 0)⟩,
 ⟨some 4, none, .mov (.k (.s (.bool false)))⟩] [1, 2]) (
 .seq (
 .seq (
 .reg [
 ⟨some 7, none, .fad (.t 2) 8⟩,
 ⟨some 8, none, .load (.t 7) 1 false⟩,
 ⟨some 9, none, .len (.t 8)⟩,
 ⟨some 10, none, .mov (.k (.s (.int .i64 0)))⟩] [1, 8, 9, 10]) (
 .block 0 (
 .loop (
 .seq (
 .reg [
 ⟨some 11, none, .bin .lss (.t 10) (.t 9)⟩] [1, 8, 9, 10, 11]) (
 .seq (
 .cond (.t 11) (
 .skip) (
 .exit 0)) (
 .seq (
 .block 1 (
 .seq (
 .reg [
 ⟨some 12, none, .ixa (.t 8) (.t 10) 2 none⟩,
 ⟨some 13, none, .load (.t 12) 2 true⟩,
 ⟨some 6, none, .alloc [.s (.int .u64 0), .s (.int .i64 0)]⟩,
 ⟨none, none, .store (.t 6) (.t 13) 2⟩] [1, 6, 8, 9, 10]) (
 .seq (
 .reg [
 ⟨some 14, none, .fad (.t 6) 0⟩,
 ⟨some 15, none, .load (.t 14) 1 false⟩,
 ⟨some 16, none, .mov (.t 1)⟩,
 ⟨some 17, none, .bin .eql (.t 15) (.t 16)⟩] [1, 8, 9, 10, 17]) (
 .cond (.t 17) (
 .seq (
 .reg [
 ⟨some 4, none, .mov (.k (.s (.bool true)))⟩] [4]) (
 .ret)) (
 .skip))))) (
 .reg [
 ⟨some 18, none, .bin .add (.t 10) (.k (.s (.int .i64 1)))⟩,
 ⟨some 10, none, .mov (.t 18)⟩] [1, 8, 9, 10]))))))) (
 .seq (
 .reg [
 ⟨some 4, none, .mov (.k (.s (.bool false)))⟩] [4]) (
 .ret))),
 [.t 4], none⟩

/-- bailey/baileyref13.Given -/
def F45 : FnIR := ⟨41,
 .seq (
 .reg [
 ⟨some 4, none, .mov (.k (.s (.int .i64 0)))⟩] [0, 1]) (
 .seq (
 .reg [
 ⟨some 5, none, .mov (.k (.s (.int .i64 0)))⟩] [0, 1, 5]) (
 .seq (
 .seq (
 .reg [
 ⟨some 10, none, .mov (.t 0)⟩,
 ⟨some 11, none, .len (.t 10)⟩,
 ⟨some 12, none, .mov (.k (.s (.int .i64 0)))⟩] [1, 5, 10, 11, 12]) (
 .block 0 (
 .loop (
 .seq (
 .reg [
 ⟨some 13, none, .bin .lss (.t 12) (.t 11)⟩] [1, 5, 10, 11, 12, 13]) (
 .seq (
 .cond (.t 13) (
 .skip) (
 .exit 0)) (
 .seq (
 .block 1 (
 .seq (
 .reg [
 ⟨some 14, none, .ixa (.t 10) (.t 12) 26 none⟩,
 ⟨some 15, none, .load (.t 14) 26 true⟩,
 ⟨some 7, none, .alloc [.s (.int .u64 0), .s (.int .i64 0), .s (.int .i64 0), .lit .nil [], .s (.int .i64 0), .lit .nil [], .s (.int .i64 0), .s (.int .i64 0), .lit .nil [], .lit .nil [], .s (.int .u64 0), .s (.int .u64 0), .s (.int .u64 0), .s (.int .u64 0), .s (.int .i64 0), .s (.int .i64 0), .s (.bool false), .s (.int .u64 0), .s (.int .u64 0), .s (.int .u64 0), .s (.int .u64 0), .s (.int .u64 0), .s (.int .u64 0), .s (.int .u64 0), .s (.int .u64 0), .s (.int .u64 0)]⟩,
 ⟨none, none, .store (.t 7) (.t 15) 26⟩] [1, 5, 7, 10, 11, 12]) (
 .seq (
 .reg [
 ⟨some 16, none, .fad (.t 7) 0⟩,
 ⟨some 17, none, .load (.t 16) 1 false⟩,
 ⟨some 18, none, .call false 71 0 [.t 17]⟩,
 ⟨some 19, none, .len (.t 18)⟩,
 ⟨some 20, none, .mov (.k (.s (.int .i64 0)))⟩] [1, 5, 10, 11, 12, 18, 19, 20]) (
 .block 2 (
 .loop (
 .seq (
 .reg [
 ⟨some 21, none, .bin .lss (.t 20) (.t 19)⟩] [1, 5, 10, 11, 12, 18, 19, 20, 21]) (
 .seq (
 .cond (.t 21) (
 .skip) (
 .exit 2)) (
 .seq (
 .block 3 (
 .seq (
 .reg [
 ⟨some 22, none, .ixa (.t 18) (.t 20) 1 none⟩,
 ⟨some 23, none, .load (.t 22) 1 false⟩,
 ⟨some 9, none, .mov (.t 23)⟩] [1, 5, 9, 10, 11, 12, 18, 19, 20]) (
 .seq (
 .reg [
 ⟨some 24, none, .mov (.t 9)⟩,
 ⟨some 25, none, .bin .quo (.t 24) (.k (.s (.int .u64 64)))⟩,
 ⟨some 26, none, .mov (.t 1)⟩,
 ⟨some 27, none, .bin .eql (.t 25) (.t 26)⟩,
 ⟨some 28, none, .mov (.t 27)⟩,
 ⟨some 29, some (28, true), .mov (.t 9)⟩,
 ⟨some 30, some (28, true), .bin .rem (.t 29) (.k (.s (.int .u64 64)))⟩,
 ⟨some 31, some (28, true), .cvi .i64 (.t 30)⟩,
 ⟨some 32, some (28, true), .mov (.t 5)⟩,
 ⟨some 33, some (28, true), .bin .gtr (.t 31) (.t 32)⟩,
 ⟨some 34, none, .pick (.t 28) (.t 33) (.k (.s (.bool false)))⟩] [1, 5, 9, 10, 11, 12, 18, 19, 20, 34]) (
 .cond (.t 34) (
 .reg [
 ⟨some 35, none, .mov (.t 9)⟩,
 ⟨some 36, none, .bin .rem (.t 35) (.k (.s (.int .u64 64)))⟩,
 ⟨some 37, none, .cvi .i64 (.t 36)⟩,
 ⟨some 5, none, .mov (.t 37)⟩] [1, 5, 10, 11, 12, 18, 19, 20]) (
 .skip))))) (
 .reg [
 ⟨some 38, none, .bin .add (.t 20) (.k (.s (.int .i64 1)))⟩,
 ⟨some 20, none, .mov (.t 38)⟩] [1, 5, 10, 11, 12, 18, 19, 20]))))))))) (
 .reg [
 ⟨some 39, none, .bin .add (.t 12) (.k (.s (.int .i64 1)))⟩,
 ⟨some 12, none, .mov (.t 39)⟩] [1, 5, 10, 11, 12]))))))) (
 .seq (
 .reg [
 ⟨some 40, none, .mov (.t 5)⟩,
 ⟨some 4, none, .mov (.t 40)⟩] [4]) (
 .ret)))),
 [.t 4], none⟩

/-- bailey/graph.Refs -/
def F47 : FnIR := ⟨21,
 .seq (
 .reg [
 ⟨some 4, none, .mov (.k (.s (.int .i64 0)))⟩] [0, 1]) (
 .seq (
 .reg [
 ⟨some 5, none, .mov (.k (.s (.int .i64 0)))⟩] [0, 1, 5]) (
 .seq (
 .seq (
 .reg [
 ⟨some 8, none, .mov (.t 0)⟩,
 ⟨some 9, none, .len (.t 8)⟩,
 ⟨some 10, none, .mov (.k (.s (.int .i64 0)))⟩] [1, 5, 8, 9, 10]) (
 .block 0 (
 .loop (
 .seq (
 .reg [
 ⟨some 11, none, .bin .lss (.t 10) (.t 9)⟩] [1, 5, 8, 9, 10, 11]) (
 .seq (
 .cond (.t 11) (
 .skip) (
 .exit 0)) (
 .seq (
 .block 1 (
 .seq (
 .reg [
 ⟨some 12, none, .ixa (.t 8) (.t 10) 26 none⟩,
 ⟨some 13, none, .load (.t 12) 26 true⟩,
 ⟨some 7, none, .alloc [.s (.int .u64 0), .s (.int .i64 0), .s (.int .i64 0), .lit .nil [], .s (.int .i64 0), .lit .nil [], .s (.int .i64 0), .s (.int .i64 0), .lit .nil [], .lit .nil [], .s (.int .u64 0), .s (.int .u64 0), .s (.int .u64 0), .s (.int .u64 0), .s (.int .i64 0), .s (.int .i64 0), .s (.bool false), .s (.int .u64 0), .s (.int .u64 0), .s (.int .u64 0), .s (.int .u64 0), .s (.int .u64 0), .s (.int .u64 0), .s (.int .u64 0), .s (.int .u64 0), .s (.int .u64 0)]⟩,
 ⟨none, none, .store (.t 7) (.t 13) 26⟩] [1, 5, 7, 8, 9, 10]) (
 .seq (
 .reg [
 ⟨some 14, none, .load (.t 7) 26 true⟩,
 ⟨some 15, none, .mov (.t 1)⟩,
 ⟨some 16, none, .call false 72 0 [.t 14, .t 15]⟩] [1, 5, 8, 9, 10, 16]) (
 .cond (.t 16) (
 .reg [
 ⟨some 17, none, .mov (.t 5)⟩,
 ⟨some 18, none, .bin .add (.t 17) (.k (.s (.int .i64 1)))⟩,
 ⟨some 5, none, .mov (.t 18)⟩] [1, 5, 8, 9, 10]) (
 .skip))))) (
 .reg [
 ⟨some 19, none, .bin .add (.t 10) (.k (.s (.int .i64 1)))⟩,
 ⟨some 10, none, .mov (.t 19)⟩] [1, 5, 8, 9, 10]))))))) (
 .seq (
 .reg [
 ⟨some 20, none, .mov (.t 5)⟩,
 ⟨some 4, none, .mov (.t 20)⟩] [4]) (
 .ret)))),
 [.t 4], none⟩

/-- bailey/thing.Right -/
def F48 : FnIR := ⟨91,
 .seq (
 .reg [
 ⟨some 1, none, .bxl (.t 0)⟩,
 ⟨some 2, none, .mov (.k (.s (.bool false)))⟩] [1]) (
 .seq (
 .seq (
 .reg [
 ⟨some 4, none, .fad (.t 1) 0⟩,
 ⟨some 5, none, .load (.t 4) 1 false⟩,
 ⟨some 6, none, .call false 73 0 [.t 5]⟩,
 ⟨some 7, none, .un .not (.t 6)⟩,
 ⟨some 8, none, .mov (.t 7)⟩,
 ⟨some 9, some (8, false), .fad (.t 1) 1⟩,
 ⟨some 10, some (8, false), .load (.t 9) 1 false⟩,
 ⟨some 11, some (8, false), .bin .lss (.t 10) (.k (.s (.int .i64 1)))⟩,
 ⟨some 12, none, .pick (.t 8) (.k (.s (.bool true))) (.t 11)⟩,
 ⟨some 13, none, .mov (.t 12)⟩,
 ⟨some 14, some (13, false), .fad (.t 1) 1⟩,
 ⟨some 15, some (13, false), .load (.t 14) 1 false⟩,
 ⟨some 16, some (13, false), .bin .gtr (.t 15) (.k (.s (.int .i64 6)))⟩,
 ⟨some 17, none, .pick (.t 13) (.k (.s (.bool true))) (.t 16)⟩,
 ⟨some 18, none, .mov (.t 17)⟩,
 ⟨some 19, some (18, false), .fad (.t 1) 2⟩,
 ⟨some 20, some (18, false), .load (.t 19) 2 true⟩,
 ⟨some 21, some (18, false), .call false 74 0 [.t 20]⟩,
 ⟨some 22, some (18, false), .un .not (.t 21)⟩,
 ⟨some 23, none, .pick (.t 18) (.k (.s (.bool true))) (.t 22)⟩,
 ⟨some 24, none, .mov (.t 23)⟩,
 ⟨some 25, some (24, false), .load (.t 1) 26 true⟩,
 ⟨some 26, some (24, false), .call false 75 0 [.t 25]⟩,
 ⟨some 27, some (24, false), .un .not (.t 26)⟩,
 ⟨some 28, none, .pick (.t 24) (.k (.s (.bool true))) (.t 27)⟩] [1, 28]) (
 .cond (.t 28) (
 .seq (
 .reg [
 ⟨some 2, none, .mov (.k (.s (.bool false)))⟩] [2]) (
 .ret)) (
 .skip))) (
 .seq (
 .reg [
 ⟨some 29, none, .fad (.t 1) 1⟩,
 ⟨some 30, none, .load (.t 29) 1 false⟩,
 ⟨some 31, none, .bin .eql (.t 30) (.k (.s (.int .i64 2)))⟩,
 ⟨some 32, none, .mov (.t 31)⟩,
 ⟨some 33, some (32, false), .fad (.t 1) 1⟩,
 ⟨some 34, some (32, false), .load (.t 33) 1 false⟩,
 ⟨some 35, some (32, false), .bin .eql (.t 34) (.k (.s (.int .i64 3)))⟩,
 ⟨some 36, none, .pick (.t 32) (.k (.s (.bool true))) (.t 35)⟩,
 ⟨some 3, none, .mov (.t 36)⟩] [1, 3]) (
 .seq (
 .seq (
 .reg [
 ⟨some 37, none, .mov (.t 3)⟩,
 ⟨some 38, none, .un .not (.t 37)⟩,
 ⟨some 39, none, .mov (.t 38)⟩,
 ⟨some 40, some (39, true), .fad (.t 1) 2⟩,
 ⟨some 41, some (39, true), .load (.t 40) 2 true⟩,
 ⟨some 42, some (39, true), .call false 76 0 [.t 41]⟩,
 ⟨some 43, some (39, true), .un .not (.t 42)⟩,
 ⟨some 44, none, .pick (.t 39) (.t 43) (.k (.s (.bool false)))⟩,
 ⟨some 45, none, .mov (.t 44)⟩,
 ⟨some 46, some (45, false), .mov (.t 3)⟩,
 ⟨some 47, some (45, false), .mov (.t 46)⟩,
 ⟨some 48, some (47, true), .fad (.t 1) 4⟩,
 ⟨some 49, some (47, true), .load (.t 48) 2 true⟩,
 ⟨some 50, some (47, true), .call false 76 0 [.t 49]⟩,
 ⟨some 51, some (47, true), .un .not (.t 50)⟩,
 ⟨some 52, some (45, false), .pick (.t 47) (.t 51) (.k (.s (.bool false)))⟩,
 ⟨some 53, none, .pick (.t 45) (.k (.s (.bool true))) (.t 52)⟩] [1, 53]) (
 .cond (.t 53) (
 .seq (
 .reg [
 ⟨some 2, none, .mov (.k (.s (.bool false)))⟩] [2]) (
 .ret)) (
 .skip))) (
 .seq (
 .seq (
 .reg [
 ⟨some 54, none, .fad (.t 1) 1⟩,
 ⟨some 55, none, .load (.t 54) 1 false⟩,
 ⟨some 56, none, .bin .eql (.t 55) (.k (.s (.int .i64 1)))⟩] [1, 56]) (
 .cond (.t 56) (
 .seq (
 .reg [
 ⟨some 57, none, .fad (.t 1) 6⟩,
 ⟨some 58, none, .load (.t 57) 1 false⟩,
 ⟨some 59, none, .bin .geq (.t 58) (.k (.s (.int .i64 1)))⟩,
 ⟨some 60, none, .mov (.t 59)⟩,
 ⟨some 61, some (60, true), .fad (.t 1) 6⟩,
 ⟨some 62, some (60, true), .load (.t 61) 1 false⟩,
 ⟨some 63, some (60, true), .bin .leq (.t 62) (.k (.s (.int .i64 48)))⟩,
 ⟨some 64, none, .pick (.t 60) (.t 63) (.k (.s (.bool false)))⟩,
 ⟨some 65, none, .mov (.t 64)⟩,
 ⟨some 66, some (65, true), .fad (.t 1) 7⟩,
 ⟨some 67, some (65, true), .load (.t 66) 1 false⟩,
 ⟨some 68, some (65, true), .bin .geq (.t 67) (.k (.s (.int .i64 0)))⟩,
 ⟨some 69, none, .pick (.t 65) (.t 68) (.k (.s (.bool false)))⟩,
 ⟨some 70, none, .mov (.t 69)⟩,
 ⟨some 71, some (70, true), .fad (.t 1) 7⟩,
 ⟨some 72, some (70, true), .load (.t 71) 1 false⟩,
 ⟨some 73, some (70, true), .bin .leq (.t 72) (.k (.s (.int .i64 63)))⟩,
 ⟨some 74, none, .pick (.t 70) (.t 73) (.k (.s (.bool false)))⟩,
 ⟨some 75, none, .mov (.t 74)⟩,
 ⟨some 76, some (75, true), .fad (.t 1) 8⟩,
 ⟨some 77, some (75, true), .load (.t 76) 1 false⟩,
 ⟨some 78, some (75, true), .fad (.t 1) 6⟩,
 ⟨some 79, some (75, true), .load (.t 78) 1 false⟩,
 ⟨some 80, some (75, true), .call false 77 0 [.t 77, .t 79]⟩,
 ⟨some 81, none, .pick (.t 75) (.t 80) (.k (.s (.bool false)))⟩,
 ⟨some 2, none, .mov (.t 81)⟩] [2]) (
 .ret)) (
 .skip))) (
 .seq (
 .drw [
 ⟨some 82, none, .fad (.t 1) 6⟩,
 ⟨some 83, none, .load (.t 82) 1 false⟩,
 ⟨some 84, none, .load (.t 1) 26 true⟩,
 ⟨some 85, none, .call false 78 0 [.t 84]⟩,
 ⟨some 86, none, .bin .eql (.t 83) (.t 85)⟩,
 ⟨some 87, none, .mov (.t 86)⟩,
 ⟨some 88, some (87, true), .load (.t 1) 26 true⟩,
 ⟨some 89, some (87, true), .call false 79 0 [.t 88]⟩,
 ⟨some 90, none, .pick (.t 87) (.t 89) (.k (.s (.bool false)))⟩,
 ⟨some 2, none, .mov (.t 90)⟩] [7] [] [2]) (
 .ret)))))),
 [.t 2], none⟩

/-- bailey/thing.Same -/
def F52 : FnIR := ⟨38,
 .seq (
 .reg [
 ⟨some 2, none, .bxl (.t 0)⟩,
 ⟨some 3, none, .bxl (.t 1)⟩,
 ⟨some 4, none, .mov (.k (.s (.bool false)))⟩] [2, 3]) (
 .seq (
 .drw [
 ⟨some 5, none, .load (.t 2) 26 true⟩,
 ⟨some 6, none, .call false 80 0 [.t 5]⟩,
 ⟨some 7, none, .load (.t 3) 26 true⟩,
 ⟨some 8, none, .call false 80 0 [.t 7]⟩,
 ⟨some 9, none, .eqk (.cells [.i, .i, .i, .i, .i, .i, .i, .i, .i, .i, .b, .i, .i, .i, .i, .i, .i, .i, .i, .i]) false (.t 6) (.t 8)⟩,
 ⟨some 10, none, .mov (.t 9)⟩,
 ⟨some 11, some (10, true), .fad (.t 2) 2⟩,
 ⟨some 12, some (10, true), .load (.t 11) 2 true⟩,
 ⟨some 13, some (10, true), .fad (.t 3) 2⟩,
 ⟨some 14, some (10, true), .load (.t 13) 2 true⟩,
 ⟨some 15, some (10, true), .call false 81 0 [.t 12, .t 14]⟩,
 ⟨some 16, none, .pick (.t 10) (.t 15) (.k (.s (.bool false)))⟩,
 ⟨some 17, none, .mov (.t 16)⟩,
 ⟨some 18, some (17, true), .fad (.t 2) 4⟩,
 ⟨some 19, some (17, true), .load (.t 18) 2 true⟩,
 ⟨some 20, some (17, true), .fad (.t 3) 4⟩,
 ⟨some 21, some (17, true), .load (.t 20) 2 true⟩,
 ⟨some 22, some (17, true), .call false 81 0 [.t 19, .t 21]⟩,
 ⟨some 23, none, .pick (.t 17) (.t 22) (.k (.s (.bool false)))⟩,
 ⟨some 24, none, .mov (.t 23)⟩,
 ⟨some 25, some (24, true), .fad (.t 2) 8⟩,
 ⟨some 26, some (24, true), .load (.t 25) 1 false⟩,
 ⟨some 27, some (24, true), .fad (.t 3) 8⟩,
 ⟨some 28, some (24, true), .load (.t 27) 1 false⟩,
 ⟨some 29, some (24, true), .call false 82 0 [.t 26, .t 28]⟩,
 ⟨some 30, none, .pick (.t 24) (.t 29) (.k (.s (.bool false)))⟩,
 ⟨some 31, none, .mov (.t 30)⟩,
 ⟨some 32, some (31, true), .fad (.t 2) 9⟩,
 ⟨some 33, some (31, true), .load (.t 32) 1 false⟩,
 ⟨some 34, some (31, true), .fad (.t 3) 9⟩,
 ⟨some 35, some (31, true), .load (.t 34) 1 false⟩,
 ⟨some 36, some (31, true), .call false 83 0 [.t 33, .t 35]⟩,
 ⟨some 37, none, .pick (.t 31) (.t 36) (.k (.s (.bool false)))⟩,
 ⟨some 4, none, .mov (.t 37)⟩] [3, 10, 17, 24, 31] [] [4]) (
 .ret)),
 [.t 4], none⟩

/-- bailey/baileyref13.Refs -/
def F53 : FnIR := ⟨21,
 .seq (
 .reg [
 ⟨some 4, none, .mov (.k (.s (.int .i64 0)))⟩] [0, 1]) (
 .seq (
 .reg [
 ⟨some 5, none, .mov (.k (.s (.int .i64 0)))⟩] [0, 1, 5]) (
 .seq (
 .seq (
 .reg [
 ⟨some 8, none, .mov (.t 0)⟩,
 ⟨some 9, none, .len (.t 8)⟩,
 ⟨some 10, none, .mov (.k (.s (.int .i64 0)))⟩] [1, 5, 8, 9, 10]) (
 .block 0 (
 .loop (
 .seq (
 .reg [
 ⟨some 11, none, .bin .lss (.t 10) (.t 9)⟩] [1, 5, 8, 9, 10, 11]) (
 .seq (
 .cond (.t 11) (
 .skip) (
 .exit 0)) (
 .seq (
 .block 1 (
 .seq (
 .reg [
 ⟨some 12, none, .ixa (.t 8) (.t 10) 26 none⟩,
 ⟨some 13, none, .load (.t 12) 26 true⟩,
 ⟨some 7, none, .alloc [.s (.int .u64 0), .s (.int .i64 0), .s (.int .i64 0), .lit .nil [], .s (.int .i64 0), .lit .nil [], .s (.int .i64 0), .s (.int .i64 0), .lit .nil [], .lit .nil [], .s (.int .u64 0), .s (.int .u64 0), .s (.int .u64 0), .s (.int .u64 0), .s (.int .i64 0), .s (.int .i64 0), .s (.bool false), .s (.int .u64 0), .s (.int .u64 0), .s (.int .u64 0), .s (.int .u64 0), .s (.int .u64 0), .s (.int .u64 0), .s (.int .u64 0), .s (.int .u64 0), .s (.int .u64 0)]⟩,
 ⟨none, none, .store (.t 7) (.t 13) 26⟩] [1, 5, 7, 8, 9, 10]) (
 .seq (
 .reg [
 ⟨some 14, none, .load (.t 7) 26 true⟩,
 ⟨some 15, none, .mov (.t 1)⟩,
 ⟨some 16, none, .call false 44 0 [.t 14, .t 15]⟩] [1, 5, 8, 9, 10, 16]) (
 .cond (.t 16) (
 .reg [
 ⟨some 17, none, .mov (.t 5)⟩,
 ⟨some 18, none, .bin .add (.t 17) (.k (.s (.int .i64 1)))⟩,
 ⟨some 5, none, .mov (.t 18)⟩] [1, 5, 8, 9, 10]) (
 .skip))))) (
 .reg [
 ⟨some 19, none, .bin .add (.t 10) (.k (.s (.int .i64 1)))⟩,
 ⟨some 10, none, .mov (.t 19)⟩] [1, 5, 8, 9, 10]))))))) (
 .seq (
 .reg [
 ⟨some 20, none, .mov (.t 5)⟩,
 ⟨some 4, none, .mov (.t 20)⟩] [4]) (
 .ret)))),
 [.t 4], none⟩

/-- bailey/kern.Step$1 -/
def F54 : FnIR := ⟨24,
 .seq (
 .reg [
 ⟨some 7, none, .mov (.t 3)⟩,
 ⟨some 8, none, .eqk .nili true (.t 7) (.k (.s .nilIface))⟩] [0, 1, 2, 3, 8]) (
 .cond (.t 8) (
 .seq (
 .drw [
 ⟨some 9, none, .mov (.t 3)⟩,
 ⟨some 10, none, .tas 27 (.t 9)⟩,
 ⟨some 11, none, .build [.s (.int .i64 0), .s (.int .u64 0), .lit .nil [], .lit .nil [], .s (.int .i64 0)] [(0, 1, .t 10)]⟩,
 ⟨none, none, .store (.t 0) (.k (.lit .nil [])) 1⟩,
 ⟨none, none, .store (.t 1) (.t 11) 5⟩] [] [] [0, 2]) (
 .seq (
 .reg [
 ⟨some 12, none, .load (.t 2) 1 false⟩,
 ⟨some 13, none, .len (.t 12)⟩,
 ⟨some 14, none, .mov (.k (.s (.int .i64 0)))⟩] [0, 12, 13, 14]) (
 .block 0 (
 .loop (
 .seq (
 .reg [
 ⟨some 15, none, .bin .lss (.t 14) (.t 13)⟩] [0, 12, 13, 14, 15]) (
 .seq (
 .cond (.t 15) (
 .skip) (
 .exit 0)) (
 .seq (
 .block 1 (
 .seq (
 .reg [
 ⟨some 16, none, .ixa (.t 12) (.t 14) 26 none⟩,
 ⟨some 17, none, .load (.t 16) 26 true⟩,
 ⟨some 5, none, .alloc [.s (.int .u64 0), .s (.int .i64 0), .s (.int .i64 0), .lit .nil [], .s (.int .i64 0), .lit .nil [], .s (.int .i64 0), .s (.int .i64 0), .lit .nil [], .lit .nil [], .s (.int .u64 0), .s (.int .u64 0), .s (.int .u64 0), .s (.int .u64 0), .s (.int .i64 0), .s (.int .i64 0), .s (.bool false), .s (.int .u64 0), .s (.int .u64 0), .s (.int .u64 0), .s (.int .u64 0), .s (.int .u64 0), .s (.int .u64 0), .s (.int .u64 0), .s (.int .u64 0), .s (.int .u64 0)]⟩,
 ⟨none, none, .store (.t 5) (.t 17) 26⟩] [0, 5, 12, 13, 14]) (
 .drw [
 ⟨some 18, none, .load (.t 0) 1 false⟩,
 ⟨some 19, none, .load (.t 5) 26 true⟩,
 ⟨some 20, none, .call false 55 0 [.t 19]⟩,
 ⟨some 21, none, .bsl true 26 true [.s (.int .u64 0), .s (.int .i64 0), .s (.int .i64 0), .lit .nil [], .s (.int .i64 0), .lit .nil [], .s (.int .i64 0), .s (.int .i64 0), .lit .nil [], .lit .nil [], .s (.int .u64 0), .s (.int .u64 0), .s (.int .u64 0), .s (.int .u64 0), .s (.int .i64 0), .s (.int .i64 0), .s (.bool false), .s (.int .u64 0), .s (.int .u64 0), .s (.int .u64 0), .s (.int .u64 0), .s (.int .u64 0), .s (.int .u64 0), .s (.int .u64 0), .s (.int .u64 0), .s (.int .u64 0)] 1 [(0, .t 20)]⟩,
 ⟨some 22, none, .app false (.t 18) (.t 21) 26 272 true⟩,
 ⟨none, none, .store (.t 0) (.t 22) 1⟩] [] [] [0, 12, 13, 14]))) (
 .reg [
 ⟨some 23, none, .bin .add (.t 14) (.k (.s (.int .i64 1)))⟩,
 ⟨some 14, none, .mov (.t 23)⟩] [0, 12, 13, 14])))))))) (
 .skip)),
 [], some (6, 3)⟩

/-- bailey/thing.Copy -/
def F55 : FnIR := ⟨24,
 .seq (
 .reg [
 ⟨some 1, none, .box (.t 0)⟩,
 ⟨some 2, none, .alloc [.s (.int .u64 0), .s (.int .i64 0), .s (.int .i64 0), .lit .nil [], .s (.int .i64 0), .lit .nil [], .s (.int .i64 0), .s (.int .i64 0), .lit .nil [], .lit .nil [], .s (.int .u64 0), .s (.int .u64 0), .s (.int .u64 0), .s (.int .u64 0), .s (.int .i64 0), .s (.int .i64 0), .s (.bool false), .s (.int .u64 0), .s (.int .u64 0), .s (.int .u64 0), .s (.int .u64 0), .s (.int .u64 0), .s (.int .u64 0), .s (.int .u64 0), .s (.int .u64 0), .s (.int .u64 0)]⟩] [1, 2]) (
 .seq (
 .drw [
 ⟨some 3, none, .fad (.t 1) 2⟩,
 ⟨some 4, none, .fad (.t 3) 1⟩,
 ⟨some 5, none, .load (.t 4) 1 false⟩,
 ⟨some 6, none, .nwc 84 [.t 5]⟩,
 ⟨some 7, none, .fad (.t 1) 4⟩,
 ⟨some 8, none, .fad (.t 7) 1⟩,
 ⟨some 9, none, .load (.t 8) 1 false⟩,
 ⟨some 10, none, .nwc 84 [.t 9]⟩,
 ⟨some 11, none, .fad (.t 1) 2⟩,
 ⟨some 12, none, .fad (.t 11) 1⟩,
 ⟨none, none, .store (.t 12) (.t 6) 1⟩,
 ⟨some 13, none, .fad (.t 1) 4⟩,
 ⟨some 14, none, .fad (.t 13) 1⟩,
 ⟨none, none, .store (.t 14) (.t 10) 1⟩] [] [(6, 3)] [1, 2]) (
 .seq (
 .drw [
 ⟨some 15, none, .fad (.t 1) 8⟩,
 ⟨some 16, none, .load (.t 15) 1 false⟩,
 ⟨some 17, none, .nwc 36 [.t 16]⟩,
 ⟨some 18, none, .fad (.t 1) 9⟩,
 ⟨some 19, none, .load (.t 18) 1 false⟩,
 ⟨some 20, none, .nwc 85 [.t 19]⟩,
 ⟨some 21, none, .fad (.t 1) 8⟩,
 ⟨none, none, .store (.t 21) (.t 17) 1⟩,
 ⟨some 22, none, .fad (.t 1) 9⟩,
 ⟨none, none, .store (.t 22) (.t 20) 1⟩] [] [(4, 2)] [1, 2]) (
 .seq (
 .reg [
 ⟨some 23, none, .load (.t 1) 26 true⟩,
 ⟨none, none, .store (.t 2) (.t 23) 26⟩] [2]) (
 .ret)))),
 [.c 2 26 true], none⟩

/-- (*bailey/kern.act).run -/
def F56 : FnIR := ⟨98,
 .seq (
 .drw [
 ⟨some 5, none, .mov (.t 0)⟩,
 ⟨some 6, none, .nck (.t 5)⟩,
 ⟨some 7, none, .fad (.t 6) 12⟩,
 ⟨some 8, none, .load (.t 7) 1 false⟩,
 ⟨some 9, none, .mov (.t 0)⟩,
 ⟨some 10, none, .nck (.t 9)⟩,
 ⟨some 11, none, .fad (.t 10) 14⟩,
 ⟨some 12, none, .fad (.t 11) 0⟩,
 ⟨some 13, none, .load (.t 12) 1 false⟩,
 ⟨some 14, none, .call false 39 0 [.t 8, .t 13]⟩,
 ⟨some 4, none, .mov (.t 14)⟩,
 ⟨some 15, none, .ext (.t 4) 0⟩,
 ⟨some 16, none, .ext (.t 4) 1⟩,
 ⟨some 2, none, .alloc [.s (.int .u64 0), .s (.int .i64 0), .s (.int .i64 0), .lit .nil [], .s (.int .i64 0), .lit .nil [], .s (.int .i64 0), .s (.int .i64 0), .lit .nil [], .lit .nil [], .s (.int .u64 0), .s (.int .u64 0), .s (.int .u64 0), .s (.int .u64 0), .s (.int .i64 0), .s (.int .i64 0), .s (.bool false), .s (.int .u64 0), .s (.int .u64 0), .s (.int .u64 0), .s (.int .u64 0), .s (.int .u64 0), .s (.int .u64 0), .s (.int .u64 0), .s (.int .u64 0), .s (.int .u64 0)]⟩,
 ⟨none, none, .store (.t 2) (.t 15) 26⟩,
 ⟨some 3, none, .mov (.t 16)⟩] [] [] [0, 2, 3]) (
 .seq (
 .reg [
 ⟨some 17, none, .mov (.t 3)⟩,
 ⟨some 18, none, .mov (.t 17)⟩,
 ⟨some 19, some (18, true), .fad (.t 2) 1⟩,
 ⟨some 20, some (18, true), .load (.t 19) 1 false⟩,
 ⟨some 21, some (18, true), .bin .eql (.t 20) (.k (.s (.int .i64 2)))⟩,
 ⟨some 22, none, .pick (.t 18) (.t 21) (.k (.s (.bool false)))⟩,
 ⟨some 23, none, .mov (.t 22)⟩,
 ⟨some 24, some (23, true), .fad (.t 2) 16⟩,
 ⟨some 25, some (23, true), .load (.t 24) 1 false⟩,
 ⟨some 26, some (23, true), .un .not (.t 25)⟩,
 ⟨some 27, none, .pick (.t 23) (.t 26) (.k (.s (.bool false)))⟩,
 ⟨some 28, none, .call false 86 0 [.t 27, .k (.s (.int .i64 206))]⟩] [0, 2]) (
 .seq (
 .reg [
 ⟨some 29, none, .mov (.t 0)⟩,
 ⟨some 30, none, .load (.t 2) 26 true⟩,
 ⟨some 31, none, .nck (.t 29)⟩,
 ⟨some 32, none, .fad (.t 31) 14⟩,
 ⟨none, none, .store (.t 32) (.t 30) 26⟩] [0]) (
 .seq (
 .reg [
 ⟨some 33, none, .mov (.t 0)⟩,
 ⟨some 34, none, .nck (.t 33)⟩,
 ⟨some 35, none, .fad (.t 34) 0⟩,
 ⟨some 36, none, .fad (.t 35) 0⟩,
 ⟨some 37, none, .load (.t 36) 1 false⟩] [0, 37]) (
 .block 0 (
 .seq (
 .seq (
 .reg [
 ⟨some 40, none, .bin .eql (.t 37) (.k (.s (.int .i64 1)))⟩,
 ⟨some 39, none, .mov (.t 40)⟩] [0, 37, 39]) (
 .cond (.t 39) (
 .skip) (
 .seq (
 .reg [
 ⟨some 41, none, .bin .eql (.t 37) (.k (.s (.int .i64 2)))⟩,
 ⟨some 39, none, .mov (.t 41)⟩] [0, 37, 39]) (
 .cond (.t 39) (
 .skip) (
 .seq (
 .reg [
 ⟨some 42, none, .bin .eql (.t 37) (.k (.s (.int .i64 3)))⟩,
 ⟨some 39, none, .mov (.t 42)⟩] [0, 37, 39]) (
 .cond (.t 39) (
 .skip) (
 .seq (
 .reg [
 ⟨some 43, none, .bin .eql (.t 37) (.k (.s (.int .i64 4)))⟩,
 ⟨some 39, none, .mov (.t 43)⟩] [0, 37, 39]) (
 .cond (.t 39) (
 .skip) (
 .reg [
 ⟨some 44, none, .bin .eql (.t 37) (.k (.s (.int .i64 5)))⟩,
 ⟨some 39, none, .mov (.t 44)⟩] [0, 37, 39]))))))))) (
 .cond (.t 39) (
 .reg [
 ⟨some 45, none, .mov (.t 0)⟩,
 ⟨some 46, none, .call true 87 0 [.t 45]⟩] []) (
 .seq (
 .seq (
 .reg [
 ⟨some 48, none, .bin .eql (.t 37) (.k (.s (.int .i64 6)))⟩,
 ⟨some 47, none, .mov (.t 48)⟩] [0, 37, 47]) (
 .cond (.t 47) (
 .skip) (
 .reg [
 ⟨some 49, none, .bin .eql (.t 37) (.k (.s (.int .i64 7)))⟩,
 ⟨some 47, none, .mov (.t 49)⟩] [0, 37, 47]))) (
 .cond (.t 47) (
 .reg [
 ⟨some 50, none, .mov (.t 0)⟩,
 ⟨some 51, none, .call true 88 0 [.t 50]⟩] []) (
 .seq (
 .seq (
 .reg [
 ⟨some 53, none, .bin .eql (.t 37) (.k (.s (.int .i64 8)))⟩,
 ⟨some 52, none, .mov (.t 53)⟩] [0, 37, 52]) (
 .cond (.t 52) (
 .skip) (
 .seq (
 .reg [
 ⟨some 54, none, .bin .eql (.t 37) (.k (.s (.int .i64 9)))⟩,
 ⟨some 52, none, .mov (.t 54)⟩] [0, 37, 52]) (
 .cond (.t 52) (
 .skip) (
 .reg [
 ⟨some 55, none, .bin .eql (.t 37) (.k (.s (.int .i64 10)))⟩,
 ⟨some 52, none, .mov (.t 55)⟩] [0, 37, 52]))))) (
 .cond (.t 52) (
 .reg [
 ⟨some 56, none, .mov (.t 0)⟩,
 ⟨some 57, none, .call true 89 0 [.t 56]⟩] []) (
 .seq (
 .seq (
 .reg [
 ⟨some 59, none, .bin .eql (.t 37) (.k (.s (.int .i64 11)))⟩,
 ⟨some 58, none, .mov (.t 59)⟩] [0, 37, 58]) (
 .cond (.t 58) (
 .skip) (
 .seq (
 .reg [
 ⟨some 60, none, .bin .eql (.t 37) (.k (.s (.int .i64 12)))⟩,
 ⟨some 58, none, .mov (.t 60)⟩] [0, 37, 58]) (
 .cond (.t 58) (
 .skip) (
 .seq (
 .reg [
 ⟨some 61, none, .bin .eql (.t 37) (.k (.s (.int .i64 13)))⟩,
 ⟨some 58, none, .mov (.t 61)⟩] [0, 37, 58]) (
 .cond (.t 58) (
 .skip) (
 .seq (
 .reg [
 ⟨some 62, none, .bin .eql (.t 37) (.k (.s (.int .i64 14)))⟩,
 ⟨some 58, none, .mov (.t 62)⟩] [0, 37, 58]) (
 .cond (.t 58) (
 .skip) (
 .seq (
 .reg [
 ⟨some 63, none, .bin .eql (.t 37) (.k (.s (.int .i64 15)))⟩,
 ⟨some 58, none, .mov (.t 63)⟩] [0, 37, 58]) (
 .cond (.t 58) (
 .skip) (
 .reg [
 ⟨some 64, none, .bin .eql (.t 37) (.k (.s (.int .i64 22)))⟩,
 ⟨some 58, none, .mov (.t 64)⟩] [0, 37, 58]))))))))))) (
 .cond (.t 58) (
 .reg [
 ⟨some 65, none, .mov (.t 0)⟩,
 ⟨some 66, none, .call true 90 0 [.t 65]⟩] []) (
 .seq (
 .seq (
 .reg [
 ⟨some 68, none, .bin .eql (.t 37) (.k (.s (.int .i64 16)))⟩,
 ⟨some 67, none, .mov (.t 68)⟩] [0, 37, 67]) (
 .cond (.t 67) (
 .skip) (
 .seq (
 .reg [
 ⟨some 69, none, .bin .eql (.t 37) (.k (.s (.int .i64 17)))⟩,
 ⟨some 67, none, .mov (.t 69)⟩] [0, 37, 67]) (
 .cond (.t 67) (
 .skip) (
 .reg [
 ⟨some 70, none, .bin .eql (.t 37) (.k (.s (.int .i64 18)))⟩,
 ⟨some 67, none, .mov (.t 70)⟩] [0, 37, 67]))))) (
 .cond (.t 67) (
 .reg [
 ⟨some 71, none, .mov (.t 0)⟩,
 ⟨some 72, none, .call true 91 0 [.t 71]⟩] []) (
 .seq (
 .reg [
 ⟨some 74, none, .bin .eql (.t 37) (.k (.s (.int .i64 19)))⟩,
 ⟨some 73, none, .mov (.t 74)⟩] [0, 37, 73]) (
 .cond (.t 73) (
 .drw [
 ⟨some 75, none, .mov (.t 0)⟩,
 ⟨some 76, none, .mov (.t 0)⟩,
 ⟨some 77, none, .mov (.t 0)⟩,
 ⟨some 78, none, .nck (.t 77)⟩,
 ⟨some 79, none, .fad (.t 78) 0⟩,
 ⟨some 80, none, .fad (.t 79) 3⟩,
 ⟨some 81, none, .load (.t 80) 1 false⟩,
 ⟨some 82, none, .mov (.t 0)⟩,
 ⟨some 83, none, .nck (.t 82)⟩,
 ⟨some 84, none, .fad (.t 83) 0⟩,
 ⟨some 85, none, .fad (.t 84) 4⟩,
 ⟨some 86, none, .load (.t 85) 1 false⟩,
 ⟨some 87, none, .call true 92 0 [.t 76, .t 81, .t 86]⟩,
 ⟨some 88, none, .fld (.t 87) 1 1 false⟩,
 ⟨some 89, none, .cvi .u64 (.t 88)⟩,
 ⟨some 90, none, .nck (.t 75)⟩,
 ⟨some 91, none, .fad (.t 90) 40⟩,
 ⟨some 92, none, .fad (.t 91) 1⟩,
 ⟨none, none, .store (.t 92) (.t 89) 1⟩] [12] [] []) (
 .seq (
 .seq (
 .reg [
 ⟨some 94, none, .bin .eql (.t 37) (.k (.s (.int .i64 20)))⟩,
 ⟨some 93, none, .mov (.t 94)⟩] [0, 37, 93]) (
 .cond (.t 93) (
 .skip) (
 .reg [
 ⟨some 95, none, .bin .eql (.t 37) (.k (.s (.int .i64 21)))⟩,
 ⟨some 93, none, .mov (.t 95)⟩] [0, 93]))) (
 .cond (.t 93) (
 .reg [
 ⟨some 96, none, .mov (.t 0)⟩,
 ⟨some 97, none, .call true 93 0 [.t 96]⟩] []) (
 .reg [
 ⟨some 38, none, .mki 27 (.k (.s (.int .i64 205)))⟩,
 ⟨none, none, .pan (.t 38)⟩] []))))))))))))))))))),
 [], none⟩

/-- bailey/baileyref20.do -/
def F57 : FnIR := ⟨158,
 .seq (
 .reg [
 ⟨some 6, none, .bxl (.t 2)⟩,
 ⟨some 7, none, .bxl (.t 3)⟩,
 ⟨some 8, none, .mov (.k (.lit .nil []))⟩,
 ⟨some 9, none, .alloc [.s (.int .i64 0), .s (.int .u64 0), .lit .nil [], .lit .nil [], .s (.int .i64 0)]⟩,
 ⟨some 10, none, .mov (.k (.s (.int .i64 0)))⟩] [0, 1, 6, 7, 9]) (
 .seq (
 .block 0 (
 .seq (
 .reg [
 ⟨some 14, none, .fad (.t 7) 0⟩,
 ⟨some 15, none, .load (.t 14) 1 false⟩,
 ⟨some 16, none, .bin .geq (.t 15) (.k (.s (.int .i64 1)))⟩,
 ⟨some 17, none, .mov (.t 16)⟩,
 ⟨some 18, some (17, true), .fad (.t 7) 0⟩,
 ⟨some 19, some (17, true), .load (.t 18) 1 false⟩,
 ⟨some 20, some (17, true), .bin .leq (.t 19) (.k (.s (.int .i64 5)))⟩,
 ⟨some 21, none, .pick (.t 17) (.t 20) (.k (.s (.bool false)))⟩,
 ⟨some 13, none, .mov (.t 21)⟩] [0, 1, 6, 7, 9, 13]) (
 .cond (.t 13) (
 .seq (
 .reg [
 ⟨some 22, none, .mov (.t 0)⟩,
 ⟨some 23, none, .mov (.t 1)⟩,
 ⟨some 24, none, .load (.t 6) 26 true⟩,
 ⟨some 25, none, .load (.t 7) 12 true⟩,
 ⟨some 26, none, .call false 94 0 [.t 22, .t 23, .t 24, .t 25]⟩,
 ⟨some 27, none, .ext (.t 26) 0⟩,
 ⟨some 28, none, .ext (.t 26) 1⟩,
 ⟨some 29, none, .ext (.t 26) 2⟩,
 ⟨some 8, none, .mov (.t 27)⟩,
 ⟨none, none, .store (.t 9) (.t 28) 5⟩,
 ⟨some 10, none, .mov (.t 29)⟩] [8, 9, 10]) (
 .ret)) (
 .seq (
 .reg [
 ⟨some 31, none, .fad (.t 7) 0⟩,
 ⟨some 32, none, .load (.t 31) 1 false⟩,
 ⟨some 33, none, .bin .eql (.t 32) (.k (.s (.int .i64 6)))⟩,
 ⟨some 30, none, .mov (.t 33)⟩] [0, 1, 6, 7, 9, 30]) (
 .cond (.t 30) (
 .seq (
 .reg [
 ⟨some 34, none, .mov (.t 0)⟩,
 ⟨some 35, none, .load (.t 6) 26 true⟩,
 ⟨some 36, none, .fad (.t 7) 3⟩,
 ⟨some 37, none, .load (.t 36) 1 false⟩,
 ⟨some 38, none, .fad (.t 7) 4⟩,
 ⟨some 39, none, .load (.t 38) 1 false⟩,
 ⟨some 40, none, .fad (.t 7) 1⟩,
 ⟨some 41, none, .load (.t 40) 1 false⟩,
 ⟨some 42, none, .fad (.t 7) 2⟩,
 ⟨some 43, none, .load (.t 42) 1 false⟩,
 ⟨some 44, none, .call false 95 0 [.t 34, .t 35, .t 37, .t 39, .t 41, .t 43]⟩,
 ⟨some 45, none, .ext (.t 44) 0⟩,
 ⟨some 46, none, .ext (.t 44) 1⟩,
 ⟨some 47, none, .ext (.t 44) 2⟩,
 ⟨some 8, none, .mov (.t 45)⟩,
 ⟨none, none, .store (.t 9) (.t 46) 5⟩,
 ⟨some 10, none, .mov (.t 47)⟩] [8, 9, 10]) (
 .ret)) (
 .seq (
 .reg [
 ⟨some 49, none, .fad (.t 7) 0⟩,
 ⟨some 50, none, .load (.t 49) 1 false⟩,
 ⟨some 51, none, .bin .eql (.t 50) (.k (.s (.int .i64 7)))⟩,
 ⟨some 48, none, .mov (.t 51)⟩] [0, 1, 6, 7, 9, 48]) (
 .cond (.t 48) (
 .seq (
 .reg [
 ⟨some 52, none, .mov (.t 0)⟩,
 ⟨some 53, none, .load (.t 6) 26 true⟩,
 ⟨some 54, none, .fad (.t 7) 3⟩,
 ⟨some 55, none, .load (.t 54) 1 false⟩,
 ⟨some 56, none, .fad (.t 7) 4⟩,
 ⟨some 57, none, .load (.t 56) 1 false⟩,
 ⟨some 58, none, .fad (.t 7) 1⟩,
 ⟨some 59, none, .load (.t 58) 1 false⟩,
 ⟨some 60, none, .fad (.t 7) 10⟩,
 ⟨some 61, none, .load (.t 60) 1 false⟩,
 ⟨some 62, none, .call false 96 0 [.t 52, .t 53, .t 55, .t 57, .t 59, .t 61]⟩,
 ⟨some 63, none, .ext (.t 62) 0⟩,
 ⟨some 64, none, .ext (.t 62) 1⟩,
 ⟨some 65, none, .ext (.t 62) 2⟩,
 ⟨some 8, none, .mov (.t 63)⟩,
 ⟨none, none, .store (.t 9) (.t 64) 5⟩,
 ⟨some 10, none, .mov (.t 65)⟩] [8, 9, 10]) (
 .ret)) (
 .seq (
 .reg [
 ⟨some 67, none, .fad (.t 7) 0⟩,
 ⟨some 68, none, .load (.t 67) 1 false⟩,
 ⟨some 69, none, .bin .geq (.t 68) (.k (.s (.int .i64 8)))⟩,
 ⟨some 70, none, .mov (.t 69)⟩,
 ⟨some 71, some (70, true), .fad (.t 7) 0⟩,
 ⟨some 72, some (70, true), .load (.t 71) 1 false⟩,
 ⟨some 73, some (70, true), .bin .leq (.t 72) (.k (.s (.int .i64 10)))⟩,
 ⟨some 74, none, .pick (.t 70) (.t 73) (.k (.s (.bool false)))⟩,
 ⟨some 66, none, .mov (.t 74)⟩] [0, 1, 6, 7, 9, 66]) (
 .cond (.t 66) (
 .seq (
 .reg [
 ⟨some 75, none, .mov (.t 0)⟩,
 ⟨some 76, none, .load (.t 6) 26 true⟩,
 ⟨some 77, none, .load (.t 7) 12 true⟩,
 ⟨some 78, none, .call false 97 0 [.t 75, .t 76, .t 77]⟩,
 ⟨some 79, none, .ext (.t 78) 0⟩,
 ⟨some 80, none, .ext (.t 78) 1⟩,
 ⟨some 81, none, .ext (.t 78) 2⟩,
 ⟨some 8, none, .mov (.t 79)⟩,
 ⟨none, none, .store (.t 9) (.t 80) 5⟩,
 ⟨some 10, none, .mov (.t 81)⟩] [8, 9, 10]) (
 .ret)) (
 .seq (
 .reg [
 ⟨some 83, none, .fad (.t 7) 0⟩,
 ⟨some 84, none, .load (.t 83) 1 false⟩,
 ⟨some 85, none, .bin .geq (.t 84) (.k (.s (.int .i64 11)))⟩,
 ⟨some 86, none, .mov (.t 85)⟩,
 ⟨some 87, some (86, true), .fad (.t 7) 0⟩,
 ⟨some 88, some (86, true), .load (.t 87) 1 false⟩,
 ⟨some 89, some (86, true), .bin .leq (.t 88) (.k (.s (.int .i64 15)))⟩,
 ⟨some 90, none, .pick (.t 86) (.t 89) (.k (.s (.bool false)))⟩,
 ⟨some 91, none, .mov (.t 90)⟩,
 ⟨some 92, some (91, false), .fad (.t 7) 0⟩,
 ⟨some 93, some (91, false), .load (.t 92) 1 false⟩,
 ⟨some 94, some (91, false), .bin .eql (.t 93) (.k (.s (.int .i64 22)))⟩,
 ⟨some 95, none, .pick (.t 91) (.k (.s (.bool true))) (.t 94)⟩,
 ⟨some 82, none, .mov (.t 95)⟩] [0, 1, 6, 7, 9, 82]) (
 .cond (.t 82) (
 .seq (
 .reg [
 ⟨some 96, none, .mov (.t 0)⟩,
 ⟨some 97, none, .mov (.t 1)⟩,
 ⟨some 98, none, .load (.t 6) 26 true⟩,
 ⟨some 99, none, .load (.t 7) 12 true⟩,
 ⟨some 100, none, .call false 98 0 [.t 96, .t 97, .t 98, .t 99]⟩,
 ⟨some 101, none, .ext (.t 100) 0⟩,
 ⟨some 102, none, .ext (.t 100) 1⟩,
 ⟨some 103, none, .ext (.t 100) 2⟩,
 ⟨some 8, none, .mov (.t 101)⟩,
 ⟨none, none, .store (.t 9) (.t 102) 5⟩,
 ⟨some 10, none, .mov (.t 103)⟩] [8, 9, 10]) (
 .ret)) (
 .seq (
 .reg [
 ⟨some 105, none, .fad (.t 7) 0⟩,
 ⟨some 106, none, .load (.t 105) 1 false⟩,
 ⟨some 107, none, .bin .geq (.t 106) (.k (.s (.int .i64 16)))⟩,
 ⟨some 108, none, .mov (.t 107)⟩,
 ⟨some 109, some (108, true), .fad (.t 7) 0⟩,
 ⟨some 110, some (108, true), .load (.t 109) 1 false⟩,
 ⟨some 111, some (108, true), .bin .leq (.t 110) (.k (.s (.int .i64 18)))⟩,
 ⟨some 112, none, .pick (.t 108) (.t 111) (.k (.s (.bool false)))⟩,
 ⟨some 104, none, .mov (.t 112)⟩] [0, 6, 7, 9, 104]) (
 .cond (.t 104) (
 .seq (
 .reg [
 ⟨some 113, none, .mov (.t 0)⟩,
 ⟨some 114, none, .load (.t 6) 26 true⟩,
 ⟨some 115, none, .load (.t 7) 12 true⟩,
 ⟨some 116, none, .call false 99 0 [.t 113, .t 114, .t 115]⟩,
 ⟨some 117, none, .ext (.t 116) 0⟩,
 ⟨some 118, none, .ext (.t 116) 1⟩,
 ⟨some 119, none, .ext (.t 116) 2⟩,
 ⟨some 8, none, .mov (.t 117)⟩,
 ⟨none, none, .store (.t 9) (.t 118) 5⟩,
 ⟨some 10, none, .mov (.t 119)⟩] [8, 9, 10]) (
 .ret)) (
 .seq (
 .reg [
 ⟨some 121, none, .fad (.t 7) 0⟩,
 ⟨some 122, none, .load (.t 121) 1 false⟩,
 ⟨some 123, none, .bin .eql (.t 122) (.k (.s (.int .i64 19)))⟩,
 ⟨some 120, none, .mov (.t 123)⟩] [0, 6, 7, 9, 120]) (
 .cond (.t 120) (
 .seq (
 .reg [
 ⟨some 125, none, .mov (.t 0)⟩,
 ⟨some 126, none, .load (.t 6) 26 true⟩,
 ⟨some 127, none, .fad (.t 7) 3⟩,
 ⟨some 128, none, .load (.t 127) 1 false⟩,
 ⟨some 129, none, .fad (.t 7) 4⟩,
 ⟨some 130, none, .load (.t 129) 1 false⟩,
 ⟨some 131, none, .call false 100 0 [.t 125, .t 126, .t 128, .t 130]⟩,
 ⟨some 124, none, .mov (.t 131)⟩,
 ⟨some 132, none, .ext (.t 124) 0⟩,
 ⟨some 133, none, .ext (.t 124) 1⟩,
 ⟨some 11, none, .alloc [.s (.int .u64 0), .s (.int .i64 0), .s (.int .i64 0), .lit .nil [], .s (.int .i64 0), .lit .nil [], .s (.int .i64 0), .s (.int .i64 0), .lit .nil [], .lit .nil [], .s (.int .u64 0), .s (.int .u64 0), .s (.int .u64 0), .s (.int .u64 0), .s (.int .i64 0), .s (.int .i64 0), .s (.bool false), .s (.int .u64 0), .s (.int .u64 0), .s (.int .u64 0), .s (.int .u64 0), .s (.int .u64 0), .s (.int .u64 0), .s (.int .u64 0), .s (.int .u64 0), .s (.int .u64 0)]⟩,
 ⟨none, none, .store (.t 11) (.t 132) 26⟩,
 ⟨some 12, none, .mov (.t 133)⟩] [0, 9, 11, 12]) (
 .seq (
 .drw [
 ⟨some 134, none, .mov (.t 0)⟩,
 ⟨some 135, none, .fad (.t 11) 1⟩,
 ⟨some 136, none, .load (.t 135) 1 false⟩,
 ⟨some 137, none, .cvi .u64 (.t 136)⟩,
 ⟨some 138, none, .build [.s (.int .i64 0), .s (.int .u64 0), .lit .nil [], .lit .nil [], .s (.int .i64 0)] [(1, 1, .t 137)]⟩,
 ⟨some 139, none, .mov (.t 12)⟩,
 ⟨some 8, none, .mov (.t 134)⟩,
 ⟨none, none, .store (.t 9) (.t 138) 5⟩,
 ⟨some 10, none, .mov (.t 139)⟩] [] [] [8, 9, 10]) (
 .ret))) (
 .seq (
 .reg [
 ⟨some 141, none, .fad (.t 7) 0⟩,
 ⟨some 142, none, .load (.t 141) 1 false⟩,
 ⟨some 143, none, .bin .eql (.t 142) (.k (.s (.int .i64 20)))⟩,
 ⟨some 144, none, .mov (.t 143)⟩,
 ⟨some 145, some (144, false), .fad (.t 7) 0⟩,
 ⟨some 146, some (144, false), .load (.t 145) 1 false⟩,
 ⟨some 147, some (144, false), .bin .eql (.t 146) (.k (.s (.int .i64 21)))⟩,
 ⟨some 148, none, .pick (.t 144) (.k (.s (.bool true))) (.t 147)⟩,
 ⟨some 140, none, .mov (.t 148)⟩] [0, 6, 7, 9, 140]) (
 .cond (.t 140) (
 .seq (
 .reg [
 ⟨some 149, none, .mov (.t 0)⟩,
 ⟨some 150, none, .load (.t 6) 26 true⟩,
 ⟨some 151, none, .load (.t 7) 12 true⟩,
 ⟨some 152, none, .call false 101 0 [.t 149, .t 150, .t 151]⟩,
 ⟨some 153, none, .ext (.t 152) 0⟩,
 ⟨some 154, none, .ext (.t 152) 1⟩,
 ⟨some 155, none, .ext (.t 152) 2⟩,
 ⟨some 8, none, .mov (.t 153)⟩,
 ⟨none, none, .store (.t 9) (.t 154) 5⟩,
 ⟨some 10, none, .mov (.t 155)⟩] [8, 9, 10]) (
 .ret)) (
 .skip)))))))))))))))))) (
 .seq (
 .reg [
 ⟨some 156, none, .mov (.t 0)⟩,
 ⟨some 157, none, .build [.s (.int .i64 0), .s (.int .u64 0), .lit .nil [], .lit .nil [], .s (.int .i64 0)] []⟩,
 ⟨some 8, none, .mov (.t 156)⟩,
 ⟨none, none, .store (.t 9) (.t 157) 5⟩,
 ⟨some 10, none, .mov (.k (.s (.int .i64 205)))⟩] [8, 9, 10]) (
 .ret))),
 [.t 8, .c 9 5 true, .t 10], none⟩

/-- bailey/dir.Drop -/
def F58 : FnIR := ⟨27,
 .seq (
 .reg [
 ⟨some 2, none, .box (.t 0)⟩,
 ⟨some 4, none, .alloc [.s (.int .u64 0), .s (.int .i64 0), .s (.int .i64 0), .lit .nil [], .s (.int .i64 0), .lit .nil [], .s (.int .i64 0), .s (.int .i64 0), .lit .nil [], .lit .nil [], .s (.int .u64 0), .s (.int .u64 0), .s (.int .u64 0), .s (.int .u64 0), .s (.int .i64 0), .s (.int .i64 0), .s (.bool false), .s (.int .u64 0), .s (.int .u64 0), .s (.int .u64 0), .s (.int .u64 0), .s (.int .u64 0), .s (.int .u64 0), .s (.int .u64 0), .s (.int .u64 0), .s (.int .u64 0)]⟩,
 ⟨some 5, none, .mov (.k (.s (.int .i64 0)))⟩] [1, 2, 4]) (
 .seq (
 .reg [
 ⟨some 9, none, .load (.t 2) 26 true⟩,
 ⟨some 10, none, .mov (.t 1)⟩,
 ⟨some 11, none, .call false 102 0 [.t 9, .t 10]⟩,
 ⟨some 8, none, .mov (.t 11)⟩,
 ⟨some 12, none, .ext (.t 8) 0⟩,
 ⟨some 13, none, .ext (.t 8) 1⟩,
 ⟨some 6, none, .mov (.t 12)⟩,
 ⟨some 7, none, .mov (.t 13)⟩] [2, 4, 6, 7]) (
 .seq (
 .seq (
 .reg [
 ⟨some 14, none, .mov (.t 7)⟩,
 ⟨some 15, none, .un .not (.t 14)⟩] [2, 4, 6, 15]) (
 .cond (.t 15) (
 .seq (
 .reg [
 ⟨some 16, none, .load (.t 2) 26 true⟩,
 ⟨none, none, .store (.t 4) (.t 16) 26⟩,
 ⟨some 5, none, .mov (.k (.s (.int .i64 124)))⟩] [4, 5]) (
 .ret)) (
 .skip))) (
 .seq (
 .reg [
 ⟨some 17, none, .load (.t 2) 26 true⟩,
 ⟨some 18, none, .call true 55 0 [.t 17]⟩,
 ⟨none, none, .store (.t 2) (.t 18) 26⟩] [2, 4, 6]) (
 .seq (
 .reg [
 ⟨some 19, none, .fad (.t 2) 8⟩,
 ⟨some 20, none, .load (.t 19) 1 false⟩,
 ⟨some 21, none, .mov (.t 6)⟩,
 ⟨some 22, none, .mov (.t 6)⟩,
 ⟨some 23, none, .bin .add (.t 22) (.k (.s (.int .i64 1)))⟩,
 ⟨some 24, none, .call true 103 0 [.t 20, .t 21, .t 23]⟩,
 ⟨some 25, none, .fad (.t 2) 8⟩,
 ⟨none, none, .store (.t 25) (.t 24) 1⟩] [2, 4]) (
 .seq (
 .reg [
 ⟨some 26, none, .load (.t 2) 26 true⟩,
 ⟨none, none, .store (.t 4) (.t 26) 26⟩,
 ⟨some 5, none, .mov (.k (.s (.int .i64 0)))⟩] [4, 5]) (
 .ret)))))),
 [.c 4 26 true, .t 5], none⟩

/-- bailey/graph.Put -/
def F59 : FnIR := ⟨30,
 .seq (
 .reg [
 ⟨some 3, none, .bxl (.t 1)⟩,
 ⟨some 4, none, .mov (.k (.lit .nil []))⟩] [0, 3]) (
 .seq (
 .reg [
 ⟨some 8, none, .mov (.t 0)⟩,
 ⟨some 9, none, .call true 34 0 [.t 8]⟩,
 ⟨some 5, none, .mov (.t 9)⟩] [3, 5]) (
 .seq (
 .reg [
 ⟨some 11, none, .mov (.t 5)⟩,
 ⟨some 12, none, .fad (.t 3) 0⟩,
 ⟨some 13, none, .load (.t 12) 1 false⟩,
 ⟨some 14, none, .call false 60 0 [.t 11, .t 13]⟩,
 ⟨some 10, none, .mov (.t 14)⟩,
 ⟨some 15, none, .ext (.t 10) 0⟩,
 ⟨some 16, none, .ext (.t 10) 1⟩,
 ⟨some 6, none, .mov (.t 15)⟩,
 ⟨some 7, none, .mov (.t 16)⟩] [3, 5, 6, 7]) (
 .seq (
 .seq (
 .reg [
 ⟨some 17, none, .mov (.t 7)⟩] [3, 5, 6, 17]) (
 .cond (.t 17) (
 .seq (
 .reg [
 ⟨some 18, none, .mov (.t 5)⟩,
 ⟨some 19, none, .mov (.t 6)⟩,
 ⟨some 20, none, .load (.t 3) 26 true⟩,
 ⟨some 21, none, .call false 55 0 [.t 20]⟩,
 ⟨some 22, none, .ixa (.t 18) (.t 19) 26 none⟩,
 ⟨none, none, .store (.t 22) (.t 21) 26⟩] [5]) (
 .seq (
 .reg [
 ⟨some 23, none, .mov (.t 5)⟩,
 ⟨some 4, none, .mov (.t 23)⟩] [4]) (
 .ret))) (
 .skip))) (
 .seq (
 .reg [
 ⟨some 24, none, .mov (.t 5)⟩,
 ⟨some 25, none, .mov (.t 6)⟩,
 ⟨some 26, none, .load (.t 3) 26 true⟩,
 ⟨some 27, none, .call false 55 0 [.t 26]⟩,
 ⟨some 28, none, .bsl true 26 true [.s (.int .u64 0), .s (.int .i64 0), .s (.int .i64 0), .lit .nil [], .s (.int .i64 0), .lit .nil [], .s (.int .i64 0), .s (.int .i64 0), .lit .nil [], .lit .nil [], .s (.int .u64 0), .s (.int .u64 0), .s (.int .u64 0), .s (.int .u64 0), .s (.int .i64 0), .s (.int .i64 0), .s (.bool false), .s (.int .u64 0), .s (.int .u64 0), .s (.int .u64 0), .s (.int .u64 0), .s (.int .u64 0), .s (.int .u64 0), .s (.int .u64 0), .s (.int .u64 0), .s (.int .u64 0)] 1 [(0, .t 27)]⟩,
 ⟨some 29, none, .call true 104 0 [.t 24, .t 25, .t 28]⟩,
 ⟨some 4, none, .mov (.t 29)⟩] [4]) (
 .ret))))),
 [.t 4], none⟩

/-- bailey/graph.place -/
def F60 : FnIR := ⟨11,
 .seq (
 .reg [
 ⟨some 4, none, .mov (.k (.s (.int .i64 0)))⟩,
 ⟨some 5, none, .mov (.k (.s (.bool false)))⟩] [0, 1]) (
 .seq (
 .reg [
 ⟨some 6, none, .mov (.t 0)⟩,
 ⟨some 7, none, .mov (.t 1)⟩,
 ⟨some 8, none, .call false 105 0 [.t 6, .t 7, .k (.fn 106 [] [])]⟩,
 ⟨some 9, none, .ext (.t 8) 0⟩,
 ⟨some 10, none, .ext (.t 8) 1⟩,
 ⟨some 4, none, .mov (.t 9)⟩,
 ⟨some 5, none, .mov (.t 10)⟩] [4, 5]) (
 .ret)),
 [.t 4, .t 5], none⟩

/-- slices.Delete[[]bailey/api.Thing,bailey/api.Thing] -/
def F61 : FnIR := ⟨33,
 .seq (
 .reg [
 ⟨some 6, none, .mov (.k (.lit .nil []))⟩] [0, 1, 2]) (
 .seq (
 .reg [
 ⟨some 8, none, .mov (.t 0)⟩,
 ⟨some 9, none, .mov (.t 1)⟩,
 ⟨some 10, none, .mov (.t 2)⟩,
 ⟨some 11, none, .mov (.t 0)⟩,
 ⟨some 12, none, .len (.t 11)⟩,
 ⟨some 13, none, .slc (.t 8) (some (.t 9)) (some (.t 10)) (some (.t 12)) 26 true⟩] [0, 1, 2]) (
 .seq (
 .seq (
 .reg [
 ⟨some 14, none, .mov (.t 1)⟩,
 ⟨some 15, none, .mov (.t 2)⟩,
 ⟨some 16, none, .bin .eql (.t 14) (.t 15)⟩] [0, 1, 2, 16]) (
 .cond (.t 16) (
 .seq (
 .reg [
 ⟨some 17, none, .mov (.t 0)⟩,
 ⟨some 6, none, .mov (.t 17)⟩] [6]) (
 .ret)) (
 .skip))) (
 .seq (
 .reg [
 ⟨some 18, none, .mov (.t 0)⟩,
 ⟨some 19, none, .len (.t 18)⟩,
 ⟨some 7, none, .mov (.t 19)⟩] [0, 1, 2, 7]) (
 .seq (
 .drw [
 ⟨some 20, none, .mov (.t 0)⟩,
 ⟨some 21, none, .mov (.t 1)⟩,
 ⟨some 22, none, .slc (.t 20) none (some (.t 21)) none 26 true⟩,
 ⟨some 23, none, .mov (.t 0)⟩,
 ⟨some 24, none, .mov (.t 2)⟩,
 ⟨some 25, none, .slc (.t 23) (some (.t 24)) none none 26 true⟩,
 ⟨some 26, none, .app false (.t 22) (.t 25) 26 272 true⟩,
 ⟨some 0, none, .mov (.t 26)⟩] [] [] [0, 7]) (
 .seq (
 .reg [
 ⟨some 27, none, .mov (.t 0)⟩,
 ⟨some 28, none, .mov (.t 0)⟩,
 ⟨some 29, none, .len (.t 28)⟩,
 ⟨some 30, none, .mov (.t 7)⟩,
 ⟨some 31, none, .slc (.t 27) (some (.t 29)) (some (.t 30)) none 26 true⟩,
 ⟨none, none, .clr (.t 31) 26 [.s (.int .u64 0), .s (.int .i64 0), .s (.int .i64 0), .lit .nil [], .s (.int .i64 0), .lit .nil [], .s (.int .i64 0), .s (.int .i64 0), .lit .nil [], .lit .nil [], .s (.int .u64 0), .s (.int .u64 0), .s (.int .u64 0), .s (.int .u64 0), .s (.int .i64 0), .s (.int .i64 0), .s (.bool false), .s (.int .u64 0), .s (.int .u64 0), .s (.int .u64 0), .s (.int .u64 0), .s (.int .u64 0), .s (.int .u64 0), .s (.int .u64 0), .s (.int .u64 0), .s (.int .u64 0)]⟩] [0]) (
 .seq (
 .reg [
 ⟨some 32, none, .mov (.t 0)⟩,
 ⟨some 6, none, .mov (.t 32)⟩] [6]) (
 .ret))))))),
 [.t 6], none⟩

/-- slices.Sort[[]uint64,uint64] -/
def F62 : FnIR := ⟨11,
 .seq (
 .reg [
 ⟨some 3, none, .mov (.t 0)⟩,
 ⟨some 4, none, .len (.t 3)⟩,
 ⟨some 2, none, .mov (.t 4)⟩] [0, 2]) (
 .reg [
 ⟨some 5, none, .mov (.t 0)⟩,
 ⟨some 6, none, .mov (.t 2)⟩,
 ⟨some 7, none, .mov (.t 2)⟩,
 ⟨some 8, none, .cvi .u64 (.t 7)⟩,
 ⟨some 9, none, .call false 109 0 [.t 8]⟩,
 ⟨some 10, none, .call true 108 0 [.t 5, .k (.s (.int .i64 0)), .t 6, .t 9]⟩] []),
 [], none⟩

/-- bailey/baileyref11.id -/
def F63 : FnIR := ⟨9,
 .seq (
 .reg [
 ⟨some 2, none, .mov (.k (.s (.bool false)))⟩] [0]) (
 .seq (
 .reg [
 ⟨some 3, none, .mov (.t 0)⟩,
 ⟨some 4, none, .bin .geq (.t 3) (.k (.s (.int .u64 1)))⟩,
 ⟨some 5, none, .mov (.t 4)⟩,
 ⟨some 6, some (5, true), .mov (.t 0)⟩,
 ⟨some 7, some (5, true), .bin .lss (.t 6) (.k (.s (.int .u64 281474976710656)))⟩,
 ⟨some 8, none, .pick (.t 5) (.t 7) (.k (.s (.bool false)))⟩,
 ⟨some 2, none, .mov (.t 8)⟩] [2]) (
 .ret)),
 [.t 2], none⟩

/-- bailey/baileyref09.Right -/
def F64 : FnIR := ⟨52,
 .seq (
 .reg [
 ⟨some 1, none, .bxl (.t 0)⟩,
 ⟨some 2, none, .mov (.k (.s (.bool false)))⟩] [1]) (
 .seq (
 .seq (
 .drw [
 ⟨some 5, none, .fad (.t 1) 0⟩,
 ⟨some 6, none, .load (.t 5) 1 false⟩,
 ⟨some 7, none, .bin .lss (.t 6) (.k (.s (.int .i64 1)))⟩,
 ⟨some 8, none, .mov (.t 7)⟩,
 ⟨some 9, some (8, false), .fad (.t 1) 0⟩,
 ⟨some 10, some (8, false), .load (.t 9) 1 false⟩,
 ⟨some 11, some (8, false), .bin .gtr (.t 10) (.k (.s (.int .i64 4)))⟩,
 ⟨some 12, none, .pick (.t 8) (.k (.s (.bool true))) (.t 11)⟩,
 ⟨some 13, none, .mov (.t 12)⟩,
 ⟨some 14, some (13, false), .fad (.t 1) 1⟩,
 ⟨some 15, some (13, false), .load (.t 14) 1 false⟩,
 ⟨some 16, some (13, false), .len (.t 15)⟩,
 ⟨some 17, some (13, false), .bin .gtr (.t 16) (.k (.s (.int .i64 6)))⟩,
 ⟨some 18, none, .pick (.t 13) (.k (.s (.bool true))) (.t 17)⟩,
 ⟨some 19, none, .mov (.t 18)⟩,
 ⟨some 20, some (19, false), .load (.t 1) 2 true⟩,
 ⟨some 21, some (19, false), .load (.t 1) 2 true⟩,
 ⟨some 22, some (19, false), .call false 110 0 [.t 21]⟩,
 ⟨some 23, some (19, false), .call false 26 0 [.t 20, .t 22]⟩,
 ⟨some 24, some (19, false), .un .not (.t 23)⟩,
 ⟨some 25, none, .pick (.t 19) (.k (.s (.bool true))) (.t 24)⟩] [18] [] [1, 25]) (
 .cond (.t 25) (
 .seq (
 .reg [
 ⟨some 2, none, .mov (.k (.s (.bool false)))⟩] [2]) (
 .ret)) (
 .skip))) (
 .seq (
 .seq (
 .reg [
 ⟨some 26, none, .fad (.t 1) 1⟩,
 ⟨some 27, none, .load (.t 26) 1 false⟩,
 ⟨some 28, none, .len (.t 27)⟩,
 ⟨some 29, none, .mov (.k (.s (.int .i64 0)))⟩] [27, 28, 29]) (
 .block 0 (
 .loop (
 .seq (
 .reg [
 ⟨some 30, none, .bin .lss (.t 29) (.t 28)⟩] [27, 28, 29, 30]) (
 .seq (
 .cond (.t 30) (
 .skip) (
 .exit 0)) (
 .seq (
 .block 1 (
 .seq (
 .reg [
 ⟨some 31, none, .ixa (.t 27) (.t 29) 2 none⟩,
 ⟨some 32, none, .load (.t 31) 2 true⟩,
 ⟨some 4, none, .alloc [.s (.int .u64 0), .s (.int .i64 0)]⟩,
 ⟨none, none, .store (.t 4) (.t 32) 2⟩] [4, 27, 28, 29]) (
 .seq (
 .reg [
 ⟨some 33, none, .fad (.t 4) 0⟩,
 ⟨some 34, none, .load (.t 33) 1 false⟩,
 ⟨some 35, none, .bin .lss (.t 34) (.k (.s (.int .u64 1)))⟩,
 ⟨some 36, none, .mov (.t 35)⟩,
 ⟨some 37, some (36, false), .fad (.t 4) 0⟩,
 ⟨some 38, some (36, false), .load (.t 37) 1 false⟩,
 ⟨some 39, some (36, false), .bin .gtr (.t 38) (.k (.s (.int .u64 2305843009213693951)))⟩,
 ⟨some 40, none, .pick (.t 36) (.k (.s (.bool true))) (.t 39)⟩,
 ⟨some 41, none, .mov (.t 40)⟩,
 ⟨some 42, some (41, false), .fad (.t 4) 1⟩,
 ⟨some 43, some (41, false), .load (.t 42) 1 false⟩,
 ⟨some 44, some (41, false), .bin .lss (.t 43) (.k (.s (.int .i64 0)))⟩,
 ⟨some 45, none, .pick (.t 41) (.k (.s (.bool true))) (.t 44)⟩,
 ⟨some 46, none, .mov (.t 45)⟩,
 ⟨some 47, some (46, false), .fad (.t 4) 1⟩,
 ⟨some 48, some (46, false), .load (.t 47) 1 false⟩,
 ⟨some 49, some (46, false), .bin .gtr (.t 48) (.k (.s (.int .i64 4)))⟩,
 ⟨some 50, none, .pick (.t 46) (.k (.s (.bool true))) (.t 49)⟩] [27, 28, 29, 50]) (
 .cond (.t 50) (
 .seq (
 .reg [
 ⟨some 2, none, .mov (.k (.s (.bool false)))⟩] [2]) (
 .ret)) (
 .skip))))) (
 .reg [
 ⟨some 51, none, .bin .add (.t 29) (.k (.s (.int .i64 1)))⟩,
 ⟨some 29, none, .mov (.t 51)⟩] [27, 28, 29]))))))) (
 .seq (
 .reg [
 ⟨some 2, none, .mov (.k (.s (.bool true)))⟩] [2]) (
 .ret)))),
 [.t 2], none⟩

/-- bailey/baileyref10.Pure -/
def F65 : FnIR := ⟨19,
 .seq (
 .reg [
 ⟨some 1, none, .bxl (.t 0)⟩,
 ⟨some 2, none, .mov (.k (.s (.bool false)))⟩] [1]) (
 .seq (
 .seq (
 .reg [
 ⟨some 5, none, .fad (.t 1) 0⟩,
 ⟨some 6, none, .load (.t 5) 1 false⟩,
 ⟨some 7, none, .bin .eql (.t 6) (.k (.s (.int .i64 0)))⟩] [1, 7]) (
 .cond (.t 7) (
 .seq (
 .reg [
 ⟨some 2, none, .mov (.k (.s (.bool false)))⟩] [2]) (
 .ret)) (
 .skip))) (
 .seq (
 .seq (
 .reg [
 ⟨some 8, none, .fad (.t 1) 1⟩,
 ⟨some 9, none, .load (.t 8) 1 false⟩,
 ⟨some 10, none, .len (.t 9)⟩,
 ⟨some 11, none, .mov (.k (.s (.int .i64 0)))⟩] [9, 10, 11]) (
 .block 0 (
 .loop (
 .seq (
 .reg [
 ⟨some 12, none, .bin .lss (.t 11) (.t 10)⟩] [9, 10, 11, 12]) (
 .seq (
 .cond (.t 12) (
 .skip) (
 .exit 0)) (
 .seq (
 .block 1 (
 .seq (
 .reg [
 ⟨some 13, none, .ixa (.t 9) (.t 11) 2 none⟩,
 ⟨some 14, none, .load (.t 13) 2 true⟩,
 ⟨some 4, none, .alloc [.s (.int .u64 0), .s (.int .i64 0)]⟩,
 ⟨none, none, .store (.t 4) (.t 14) 2⟩] [4, 9, 10, 11]) (
 .seq (
 .reg [
 ⟨some 15, none, .fad (.t 4) 1⟩,
 ⟨some 16, none, .load (.t 15) 1 false⟩,
 ⟨some 17, none, .bin .eql (.t 16) (.k (.s (.int .i64 0)))⟩] [9, 10, 11, 17]) (
 .cond (.t 17) (
 .seq (
 .reg [
 ⟨some 2, none, .mov (.k (.s (.bool false)))⟩] [2]) (
 .ret)) (
 .skip))))) (
 .reg [
 ⟨some 18, none, .bin .add (.t 11) (.k (.s (.int .i64 1)))⟩,
 ⟨some 11, none, .mov (.t 18)⟩] [9, 10, 11]))))))) (
 .seq (
 .reg [
 ⟨some 2, none, .mov (.k (.s (.bool true)))⟩] [2]) (
 .ret)))),
 [.t 2], none⟩

/-- bailey/baileyref01.Canon -/
def F66 : FnIR := ⟨19,
 .seq (
 .reg [
 ⟨some 2, none, .mov (.k (.s (.int .u64 0)))⟩] [0]) (
 .seq (
 .reg [
 ⟨some 7, none, .mov (.t 0)⟩,
 ⟨some 8, none, .call false 111 0 [.t 7]⟩,
 ⟨some 6, none, .mov (.t 8)⟩,
 ⟨some 9, none, .ext (.t 6) 0⟩,
 ⟨some 10, none, .ext (.t 6) 1⟩,
 ⟨some 11, none, .ext (.t 6) 2⟩,
 ⟨some 3, none, .mov (.t 9)⟩,
 ⟨some 4, none, .mov (.t 10)⟩,
 ⟨some 5, none, .mov (.t 11)⟩] [0, 4, 5]) (
 .seq (
 .seq (
 .reg [
 ⟨some 12, none, .mov (.t 4)⟩,
 ⟨some 13, none, .bin .eql (.t 12) (.k (.s (.int .u64 2047)))⟩,
 ⟨some 14, none, .mov (.t 13)⟩,
 ⟨some 15, some (14, true), .mov (.t 5)⟩,
 ⟨some 16, some (14, true), .bin .neq (.t 15) (.k (.s (.int .u64 0)))⟩,
 ⟨some 17, none, .pick (.t 14) (.t 16) (.k (.s (.bool false)))⟩] [0, 17]) (
 .cond (.t 17) (
 .seq (
 .reg [
 ⟨some 2, none, .mov (.k (.s (.int .u64 9221120237041090561)))⟩] [2]) (
 .ret)) (
 .skip))) (
 .seq (
 .reg [
 ⟨some 18, none, .mov (.t 0)⟩,
 ⟨some 2, none, .mov (.t 18)⟩] [2]) (
 .ret)))),
 [.t 2], none⟩

/-- bailey/baileyref11.clean -/
def F67 : FnIR := ⟨9,
 .seq (
 .reg [
 ⟨some 1, none, .bxl (.t 0)⟩,
 ⟨some 2, none, .mov (.k (.s (.bool false)))⟩] [1]) (
 .seq (
 .reg [
 ⟨some 3, none, .load (.t 1) 2 true⟩,
 ⟨some 4, none, .call false 64 0 [.t 3]⟩,
 ⟨some 5, none, .mov (.t 4)⟩,
 ⟨some 6, some (5, true), .load (.t 1) 2 true⟩,
 ⟨some 7, some (5, true), .call false 65 0 [.t 6]⟩,
 ⟨some 8, none, .pick (.t 5) (.t 7) (.k (.s (.bool false)))⟩,
 ⟨some 2, none, .mov (.t 8)⟩] [2]) (
 .ret)),
 [.t 2], none⟩

/-- bailey/baileyref09.Copy -/
def F68 : FnIR := ⟨10,
 .seq (
 .reg [
 ⟨some 1, none, .bxl (.t 0)⟩,
 ⟨some 2, none, .alloc [.s (.int .i64 0), .lit .nil []]⟩] [1, 2]) (
 .seq (
 .drw [
 ⟨some 3, none, .fad (.t 1) 0⟩,
 ⟨some 4, none, .load (.t 3) 1 false⟩,
 ⟨some 5, none, .bsl true 2 true [.s (.int .u64 0), .s (.int .i64 0)] 0 []⟩,
 ⟨some 6, none, .fad (.t 1) 1⟩,
 ⟨some 7, none, .load (.t 6) 1 false⟩,
 ⟨some 8, none, .app false (.t 5) (.t 7) 2 16 true⟩,
 ⟨some 9, none, .build [.s (.int .i64 0), .lit .nil []] [(0, 1, .t 4), (1, 1, .t 8)]⟩,
 ⟨none, none, .store (.t 2) (.t 9) 2⟩] [] [(1, 5)] [2]) (
 .ret)),
 [.c 2 2 true], none⟩

/-- bailey/baileyref13.Above -/
def F71 : FnIR := ⟨12,
 .seq (
 .reg [
 ⟨some 2, none, .mov (.k (.lit .nil []))⟩] [0]) (
 .seq (
 .seq (
 .reg [
 ⟨some 3, none, .mov (.t 0)⟩,
 ⟨some 4, none, .bin .eql (.t 3) (.k (.s (.int .u64 0)))⟩] [0, 4]) (
 .cond (.t 4) (
 .seq (
 .reg [
 ⟨some 5, none, .bsl true 1 false [.s (.int .u64 0)] 0 []⟩,
 ⟨some 2, none, .mov (.t 5)⟩] [2]) (
 .ret)) (
 .skip))) (
 .seq (
 .reg [
 ⟨some 6, none, .mov (.t 0)⟩,
 ⟨some 7, none, .bsl true 1 false [.s (.int .u64 0)] 1 [(0, .t 6)]⟩,
 ⟨some 8, none, .mov (.t 0)⟩,
 ⟨some 9, none, .bin .quo (.t 8) (.k (.s (.int .u64 64)))⟩,
 ⟨some 10, none, .call false 71 0 [.t 9]⟩,
 ⟨some 11, none, .app false (.t 7) (.t 10) 1 8 false⟩,
 ⟨some 2, none, .mov (.t 11)⟩] [2]) (
 .ret))),
 [.t 2], none⟩

/-- bailey/dir.Has -/
def F72 : FnIR := ⟨14,
 .seq (
 .reg [
 ⟨some 2, none, .bxl (.t 0)⟩,
 ⟨some 4, none, .mov (.k (.s (.bool false)))⟩] [1, 2]) (
 .seq (
 .reg [
 ⟨some 8, none, .load (.t 2) 26 true⟩,
 ⟨some 9, none, .mov (.t 1)⟩,
 ⟨some 10, none, .call false 102 0 [.t 8, .t 9]⟩,
 ⟨some 7, none, .mov (.t 10)⟩,
 ⟨some 11, none, .ext (.t 7) 0⟩,
 ⟨some 12, none, .ext (.t 7) 1⟩,
 ⟨some 5, none, .mov (.t 11)⟩,
 ⟨some 6, none, .mov (.t 12)⟩] [6]) (
 .seq (
 .reg [
 ⟨some 13, none, .mov (.t 6)⟩,
 ⟨some 4, none, .mov (.t 13)⟩] [4]) (
 .ret))),
 [.t 4], none⟩

/-- bailey/thing.named -/
def F73 : FnIR := ⟨9,
 .seq (
 .reg [
 ⟨some 2, none, .mov (.k (.s (.bool false)))⟩] [0]) (
 .seq (
 .reg [
 ⟨some 3, none, .mov (.t 0)⟩,
 ⟨some 4, none, .bin .geq (.t 3) (.k (.s (.int .u64 1)))⟩,
 ⟨some 5, none, .mov (.t 4)⟩,
 ⟨some 6, some (5, true), .mov (.t 0)⟩,
 ⟨some 7, some (5, true), .bin .leq (.t 6) (.k (.s (.int .u64 281474976710655)))⟩,
 ⟨some 8, none, .pick (.t 5) (.t 7) (.k (.s (.bool false)))⟩,
 ⟨some 2, none, .mov (.t 8)⟩] [2]) (
 .ret)),
 [.t 2], none⟩

/-- bailey/label.Right -/
def F74 : FnIR := ⟨33,
 .seq (
 .reg [
 ⟨some 1, none, .bxl (.t 0)⟩,
 ⟨some 2, none, .mov (.k (.s (.bool false)))⟩] [1]) (
 .seq (
 .seq (
 .drw [
 ⟨some 3, none, .fad (.t 1) 0⟩,
 ⟨some 4, none, .load (.t 3) 1 false⟩,
 ⟨some 5, none, .bin .lss (.t 4) (.k (.s (.int .i64 1)))⟩,
 ⟨some 6, none, .mov (.t 5)⟩,
 ⟨some 7, some (6, false), .fad (.t 1) 0⟩,
 ⟨some 8, some (6, false), .load (.t 7) 1 false⟩,
 ⟨some 9, some (6, false), .bin .gtr (.t 8) (.k (.s (.int .i64 4)))⟩,
 ⟨some 10, none, .pick (.t 6) (.k (.s (.bool true))) (.t 9)⟩,
 ⟨some 11, none, .mov (.t 10)⟩,
 ⟨some 12, some (11, false), .fad (.t 1) 1⟩,
 ⟨some 13, some (11, false), .load (.t 12) 1 false⟩,
 ⟨some 14, some (11, false), .len (.t 13)⟩,
 ⟨some 15, some (11, false), .bin .gtr (.t 14) (.k (.s (.int .i64 6)))⟩,
 ⟨some 16, none, .pick (.t 11) (.k (.s (.bool true))) (.t 15)⟩,
 ⟨some 17, none, .mov (.t 16)⟩,
 ⟨some 18, some (17, false), .fad (.t 1) 1⟩,
 ⟨some 19, some (17, false), .load (.t 18) 1 false⟩,
 ⟨some 20, some (17, false), .fad (.t 1) 0⟩,
 ⟨some 21, some (17, false), .load (.t 20) 1 false⟩,
 ⟨some 22, some (17, false), .fad (.t 1) 1⟩,
 ⟨some 23, some (17, false), .load (.t 22) 1 false⟩,
 ⟨some 24, some (17, false), .call false 113 0 [.t 21, .t 23]⟩,
 ⟨some 25, some (17, false), .fld (.t 24) 1 1 false⟩,
 ⟨some 26, some (17, false), .call false 112 0 [.t 19, .t 25]⟩,
 ⟨some 27, some (17, false), .un .not (.t 26)⟩,
 ⟨some 28, none, .pick (.t 17) (.k (.s (.bool true))) (.t 27)⟩] [23] [] [1, 28]) (
 .cond (.t 28) (
 .seq (
 .reg [
 ⟨some 2, none, .mov (.k (.s (.bool false)))⟩] [2]) (
 .ret)) (
 .skip))) (
 .seq (
 .reg [
 ⟨some 29, none, .fad (.t 1) 1⟩,
 ⟨some 30, none, .load (.t 29) 1 false⟩,
 ⟨some 31, none, .call false 114 0 [.t 30, .k (.fn 115 [] [])]⟩,
 ⟨some 32, none, .un .not (.t 31)⟩,
 ⟨some 2, none, .mov (.t 32)⟩] [2]) (
 .ret))),
 [.t 2], none⟩

/-- bailey/thing.only -/
def F75 : FnIR := ⟨61,
 .seq (
 .reg [
 ⟨some 1, none, .bxl (.t 0)⟩,
 ⟨some 2, none, .mov (.k (.s (.bool false)))⟩] [1]) (
 .seq (
 .reg [
 ⟨some 4, none, .fad (.t 1) 0⟩,
 ⟨some 5, none, .load (.t 4) 1 false⟩,
 ⟨some 6, none, .fad (.t 1) 1⟩,
 ⟨some 7, none, .load (.t 6) 1 false⟩,
 ⟨some 8, none, .fad (.t 1) 2⟩,
 ⟨some 9, none, .load (.t 8) 2 true⟩,
 ⟨some 10, none, .fad (.t 1) 6⟩,
 ⟨some 11, none, .load (.t 10) 1 false⟩,
 ⟨some 12, none, .build [.s (.int .u64 0), .s (.int .i64 0), .s (.int .i64 0), .lit .nil [], .s (.int .i64 0), .lit .nil [], .s (.int .i64 0), .s (.int .i64 0), .lit .nil [], .lit .nil [], .s (.int .u64 0), .s (.int .u64 0), .s (.int .u64 0), .s (.int .u64 0), .s (.int .i64 0), .s (.int .i64 0), .s (.bool false), .s (.int .u64 0), .s (.int .u64 0), .s (.int .u64 0), .s (.int .u64 0), .s (.int .u64 0), .s (.int .u64 0), .s (.int .u64 0), .s (.int .u64 0), .s (.int .u64 0)] [(0, 1, .t 5), (1, 1, .t 7), (2, 2, .t 9), (6, 1, .t 11)]⟩,
 ⟨some 3, none, .alloc [.s (.int .u64 0), .s (.int .i64 0), .s (.int .i64 0), .lit .nil [], .s (.int .i64 0), .lit .nil [], .s (.int .i64 0), .s (.int .i64 0), .lit .nil [], .lit .nil [], .s (.int .u64 0), .s (.int .u64 0), .s (.int .u64 0), .s (.int .u64 0), .s (.int .i64 0), .s (.int .i64 0), .s (.bool false), .s (.int .u64 0), .s (.int .u64 0), .s (.int .u64 0), .s (.int .u64 0), .s (.int .u64 0), .s (.int .u64 0), .s (.int .u64 0), .s (.int .u64 0), .s (.int .u64 0)]⟩,
 ⟨none, none, .store (.t 3) (.t 12) 26⟩] [1, 3]) (
 .seq (
 .seq (
 .reg [
 ⟨some 13, none, .fad (.t 1) 1⟩,
 ⟨some 14, none, .load (.t 13) 1 false⟩] [1, 3, 14]) (
 .block 0 (
 .seq (
 .reg [
 ⟨some 16, none, .bin .eql (.t 14) (.k (.s (.int .i64 1)))⟩,
 ⟨some 15, none, .mov (.t 16)⟩] [1, 3, 14, 15]) (
 .cond (.t 15) (
 .drw [
 ⟨some 17, none, .fad (.t 1) 7⟩,
 ⟨some 18, none, .load (.t 17) 1 false⟩,
 ⟨some 19, none, .fad (.t 1) 8⟩,
 ⟨some 20, none, .load (.t 19) 1 false⟩,
 ⟨some 21, none, .fad (.t 3) 7⟩,
 ⟨none, none, .store (.t 21) (.t 18) 1⟩,
 ⟨some 22, none, .fad (.t 3) 8⟩,
 ⟨none, none, .store (.t 22) (.t 20) 1⟩] [] [(3, 5)] [1, 3]) (
 .seq (
 .reg [
 ⟨some 24, none, .bin .eql (.t 14) (.k (.s (.int .i64 2)))⟩,
 ⟨some 23, none, .mov (.t 24)⟩] [1, 3, 14, 23]) (
 .cond (.t 23) (
 .seq (
 .drw [
 ⟨some 25, none, .fad (.t 1) 10⟩,
 ⟨some 26, none, .load (.t 25) 4 true⟩,
 ⟨some 27, none, .fad (.t 1) 14⟩,
 ⟨some 28, none, .load (.t 27) 1 false⟩,
 ⟨some 29, none, .fad (.t 1) 15⟩,
 ⟨some 30, none, .load (.t 29) 1 false⟩,
 ⟨some 31, none, .fad (.t 1) 16⟩,
 ⟨some 32, none, .load (.t 31) 1 false⟩,
 ⟨some 33, none, .fad (.t 3) 10⟩,
 ⟨none, none, .store (.t 33) (.t 26) 4⟩,
 ⟨some 34, none, .fad (.t 3) 14⟩,
 ⟨none, none, .store (.t 34) (.t 28) 1⟩,
 ⟨some 35, none, .fad (.t 3) 15⟩,
 ⟨none, none, .store (.t 35) (.t 30) 1⟩,
 ⟨some 36, none, .fad (.t 3) 16⟩,
 ⟨none, none, .store (.t 36) (.t 32) 1⟩] [] [(3, 9), (5, 9), (5, 11), (7, 9), (7, 11), (7, 13)] [1, 3]) (
 .reg [
 ⟨some 37, none, .fad (.t 1) 4⟩,
 ⟨some 38, none, .load (.t 37) 2 true⟩,
 ⟨some 39, none, .fad (.t 3) 4⟩,
 ⟨none, none, .store (.t 39) (.t 38) 2⟩] [1, 3])) (
 .seq (
 .reg [
 ⟨some 41, none, .bin .eql (.t 14) (.k (.s (.int .i64 3)))⟩,
 ⟨some 40, none, .mov (.t 41)⟩] [1, 3, 14, 40]) (
 .cond (.t 40) (
 .drw [
 ⟨some 42, none, .fad (.t 1) 4⟩,
 ⟨some 43, none, .load (.t 42) 2 true⟩,
 ⟨some 44, none, .fad (.t 1) 17⟩,
 ⟨some 45, none, .load (.t 44) 1 false⟩,
 ⟨some 46, none, .fad (.t 3) 4⟩,
 ⟨none, none, .store (.t 46) (.t 43) 2⟩,
 ⟨some 47, none, .fad (.t 3) 17⟩,
 ⟨none, none, .store (.t 47) (.t 45) 1⟩] [] [(3, 5)] [1, 3]) (
 .seq (
 .reg [
 ⟨some 49, none, .bin .eql (.t 14) (.k (.s (.int .i64 4)))⟩,
 ⟨some 48, none, .mov (.t 49)⟩] [1, 3, 14, 48]) (
 .cond (.t 48) (
 .reg [
 ⟨some 50, none, .fad (.t 1) 9⟩,
 ⟨some 51, none, .load (.t 50) 1 false⟩,
 ⟨some 52, none, .fad (.t 3) 9⟩,
 ⟨none, none, .store (.t 52) (.t 51) 1⟩] [1, 3]) (
 .seq (
 .reg [
 ⟨some 54, none, .bin .eql (.t 14) (.k (.s (.int .i64 5)))⟩,
 ⟨some 53, none, .mov (.t 54)⟩] [1, 3, 53]) (
 .cond (.t 53) (
 .reg [
 ⟨some 55, none, .fad (.t 1) 18⟩,
 ⟨some 56, none, .load (.t 55) 8 true⟩,
 ⟨some 57, none, .fad (.t 3) 18⟩,
 ⟨none, none, .store (.t 57) (.t 56) 8⟩] [1, 3]) (
 .skip))))))))))))) (
 .seq (
 .reg [
 ⟨some 58, none, .load (.t 3) 26 true⟩,
 ⟨some 59, none, .load (.t 1) 26 true⟩,
 ⟨some 60, none, .call false 52 0 [.t 58, .t 59]⟩,
 ⟨some 2, none, .mov (.t 60)⟩] [2]) (
 .ret)))),
 [.t 2], none⟩

/-- bailey/thing.pure -/
def F76 : FnIR := ⟨11,
 .seq (
 .reg [
 ⟨some 1, none, .bxl (.t 0)⟩,
 ⟨some 2, none, .mov (.k (.s (.bool false)))⟩] [1]) (
 .seq (
 .reg [
 ⟨some 3, none, .load (.t 1) 2 true⟩,
 ⟨some 4, none, .call false 74 0 [.t 3]⟩,
 ⟨some 5, none, .mov (.t 4)⟩,
 ⟨some 6, some (5, true), .fad (.t 1) 1⟩,
 ⟨some 7, some (5, true), .load (.t 6) 1 false⟩,
 ⟨some 8, some (5, true), .call false 114 0 [.t 7, .k (.fn 116 [] [])]⟩,
 ⟨some 9, some (5, true), .un .not (.t 8)⟩,
 ⟨some 10, none, .pick (.t 5) (.t 9) (.k (.s (.bool false)))⟩,
 ⟨some 2, none, .mov (.t 10)⟩] [2]) (
 .ret)),
 [.t 2], none⟩

/-- bailey/thing.links -/
def F77 : FnIR := ⟨55,
 .seq (
 .reg [
 ⟨some 4, none, .mov (.k (.s (.bool false)))⟩] [0, 1]) (
 .seq (
 .seq (
 .reg [
 ⟨some 8, none, .mov (.t 0)⟩,
 ⟨some 9, none, .len (.t 8)⟩,
 ⟨some 10, none, .bin .gtr (.t 9) (.k (.s (.int .i64 16)))⟩] [0, 1, 10]) (
 .cond (.t 10) (
 .seq (
 .reg [
 ⟨some 4, none, .mov (.k (.s (.bool false)))⟩] [4]) (
 .ret)) (
 .skip))) (
 .seq (
 .reg [
 ⟨some 5, none, .mov (.k (.s (.int .i64 1)))⟩] [0, 1, 5]) (
 .seq (
 .seq (
 .reg [
 ⟨some 11, none, .mov (.t 0)⟩,
 ⟨some 12, none, .len (.t 11)⟩,
 ⟨some 13, none, .mov (.k (.s (.int .i64 0)))⟩] [0, 1, 5, 11, 12, 13]) (
 .block 0 (
 .loop (
 .seq (
 .reg [
 ⟨some 14, none, .bin .lss (.t 13) (.t 12)⟩] [0, 1, 5, 11, 12, 13, 14]) (
 .seq (
 .cond (.t 14) (
 .skip) (
 .exit 0)) (
 .seq (
 .block 1 (
 .seq (
 .reg [
 ⟨some 15, none, .mov (.t 13)⟩,
 ⟨some 16, none, .ixa (.t 11) (.t 13) 2 none⟩,
 ⟨some 17, none, .load (.t 16) 2 true⟩,
 ⟨some 7, none, .alloc [.s (.int .u64 0), .s (.int .i64 0)]⟩,
 ⟨some 6, none, .mov (.t 15)⟩,
 ⟨none, none, .store (.t 7) (.t 17) 2⟩] [0, 1, 5, 6, 7, 11, 12, 13]) (
 .seq (
 .seq (
 .drw [
 ⟨some 18, none, .fad (.t 7) 0⟩,
 ⟨some 19, none, .load (.t 18) 1 false⟩,
 ⟨some 20, none, .call false 73 0 [.t 19]⟩,
 ⟨some 21, none, .un .not (.t 20)⟩,
 ⟨some 22, none, .mov (.t 21)⟩,
 ⟨some 23, some (22, false), .fad (.t 7) 1⟩,
 ⟨some 24, some (22, false), .load (.t 23) 1 false⟩,
 ⟨some 25, some (22, false), .bin .lss (.t 24) (.k (.s (.int .i64 1)))⟩,
 ⟨some 26, none, .pick (.t 22) (.k (.s (.bool true))) (.t 25)⟩,
 ⟨some 27, none, .mov (.t 26)⟩,
 ⟨some 28, some (27, false), .fad (.t 7) 1⟩,
 ⟨some 29, some (27, false), .load (.t 28) 1 false⟩,
 ⟨some 30, some (27, false), .bin .gtr (.t 29) (.k (.s (.int .i64 48)))⟩,
 ⟨some 31, none, .pick (.t 27) (.k (.s (.bool true))) (.t 30)⟩,
 ⟨some 32, none, .mov (.t 31)⟩,
 ⟨some 33, some (32, false), .mov (.t 6)⟩,
 ⟨some 34, some (32, false), .bin .gtr (.t 33) (.k (.s (.int .i64 0)))⟩,
 ⟨some 35, some (32, false), .mov (.t 34)⟩,
 ⟨some 36, some (35, true), .mov (.t 0)⟩,
 ⟨some 37, some (35, true), .mov (.t 6)⟩,
 ⟨some 38, some (35, true), .bin .sub (.t 37) (.k (.s (.int .i64 1)))⟩,
 ⟨some 39, some (35, true), .ixa (.t 36) (.t 38) 2 none⟩,
 ⟨some 40, some (35, true), .fad (.t 39) 0⟩,
 ⟨some 41, some (35, true), .load (.t 40) 1 false⟩,
 ⟨some 42, some (35, true), .fad (.t 7) 0⟩,
 ⟨some 43, some (35, true), .load (.t 42) 1 false⟩,
 ⟨some 44, some (35, true), .bin .geq (.t 41) (.t 43)⟩,
 ⟨some 45, some (32, false), .pick (.t 35) (.t 44) (.k (.s (.bool false)))⟩,
 ⟨some 46, none, .pick (.t 32) (.k (.s (.bool true))) (.t 45)⟩] [2] [] [0, 1, 5, 7, 11, 12, 13, 46]) (
 .cond (.t 46) (
 .seq (
 .reg [
 ⟨some 4, none, .mov (.k (.s (.bool false)))⟩] [4]) (
 .ret)) (
 .skip))) (
 .reg [
 ⟨some 47, none, .mov (.t 5)⟩,
 ⟨some 48, none, .fad (.t 7) 1⟩,
 ⟨some 49, none, .load (.t 48) 1 false⟩,
 ⟨some 50, none, .bin .add (.t 47) (.t 49)⟩,
 ⟨some 5, none, .mov (.t 50)⟩] [0, 1, 5, 11, 12, 13])))) (
 .reg [
 ⟨some 51, none, .bin .add (.t 13) (.k (.s (.int .i64 1)))⟩,
 ⟨some 13, none, .mov (.t 51)⟩] [0, 1, 5, 11, 12, 13]))))))) (
 .seq (
 .reg [
 ⟨some 52, none, .mov (.t 5)⟩,
 ⟨some 53, none, .mov (.t 1)⟩,
 ⟨some 54, none, .bin .leq (.t 52) (.t 53)⟩,
 ⟨some 4, none, .mov (.t 54)⟩] [4]) (
 .ret))))),
 [.t 4], none⟩

/-- bailey/thing.cost -/
def F78 : FnIR := ⟨11,
 .seq (
 .reg [
 ⟨some 1, none, .bxl (.t 0)⟩,
 ⟨some 2, none, .mov (.k (.s (.int .i64 0)))⟩] [1]) (
 .seq (
 .seq (
 .reg [
 ⟨some 3, none, .fad (.t 1) 1⟩,
 ⟨some 4, none, .load (.t 3) 1 false⟩,
 ⟨some 5, none, .bin .eql (.t 4) (.k (.s (.int .i64 4)))⟩] [1, 5]) (
 .cond (.t 5) (
 .seq (
 .reg [
 ⟨some 6, none, .fad (.t 1) 9⟩,
 ⟨some 7, none, .load (.t 6) 1 false⟩,
 ⟨some 8, none, .len (.t 7)⟩,
 ⟨some 9, none, .bin .quo (.t 8) (.k (.s (.int .i64 32)))⟩,
 ⟨some 10, none, .bin .add (.k (.s (.int .i64 1))) (.t 9)⟩,
 ⟨some 2, none, .mov (.t 10)⟩] [2]) (
 .ret)) (
 .skip))) (
 .seq (
 .reg [
 ⟨some 2, none, .mov (.k (.s (.int .i64 1)))⟩] [2]) (
 .ret))),
 [.t 2], none⟩

/-- bailey/thing.inside -/
def F79 : FnIR := ⟨67,
 .seq (
 .reg [
 ⟨some 1, none, .box (.t 0)⟩,
 ⟨some 2, none, .mov (.k (.s (.bool false)))⟩] [1]) (
 .seq (
 .seq (
 .reg [
 ⟨some 5, none, .fad (.t 1) 1⟩,
 ⟨some 6, none, .load (.t 5) 1 false⟩] [1, 6]) (
 .block 0 (
 .seq (
 .reg [
 ⟨some 8, none, .bin .eql (.t 6) (.k (.s (.int .i64 2)))⟩,
 ⟨some 7, none, .mov (.t 8)⟩] [1, 6, 7]) (
 .cond (.t 7) (
 .seq (
 .reg [
 ⟨some 3, none, .mov (.k (.fn 117 [] []))⟩] [1, 3]) (
 .seq (
 .reg [
 ⟨some 9, none, .fad (.t 1) 10⟩,
 ⟨some 10, none, .sla (.t 9) none none 4 1 false⟩,
 ⟨some 11, none, .mov (.t 3)⟩,
 ⟨some 12, none, .call false 119 0 [.t 10, .t 11]⟩,
 ⟨some 13, none, .un .not (.t 12)⟩,
 ⟨some 14, none, .mov (.t 13)⟩,
 ⟨some 15, some (14, true), .fad (.t 1) 14⟩,
 ⟨some 16, some (14, true), .load (.t 15) 1 false⟩,
 ⟨some 17, some (14, true), .bin .geq (.t 16) (.k (.s (.int .i64 0)))⟩,
 ⟨some 18, none, .pick (.t 14) (.t 17) (.k (.s (.bool false)))⟩,
 ⟨some 19, none, .mov (.t 18)⟩,
 ⟨some 20, some (19, true), .fad (.t 1) 14⟩,
 ⟨some 21, some (19, true), .load (.t 20) 1 false⟩,
 ⟨some 22, some (19, true), .bin .leq (.t 21) (.k (.s (.int .i64 31)))⟩,
 ⟨some 23, none, .pick (.t 19) (.t 22) (.k (.s (.bool false)))⟩,
 ⟨some 24, none, .mov (.t 23)⟩,
 ⟨some 25, some (24, true), .fad (.t 1) 15⟩,
 ⟨some 26, some (24, true), .load (.t 25) 1 false⟩,
 ⟨some 27, some (24, true), .bin .geq (.t 26) (.k (.s (.int .i64 0)))⟩,
 ⟨some 28, none, .pick (.t 24) (.t 27) (.k (.s (.bool false)))⟩,
 ⟨some 29, none, .mov (.t 28)⟩,
 ⟨some 30, some (29, true), .fad (.t 1) 15⟩,
 ⟨some 31, some (29, true), .load (.t 30) 1 false⟩,
 ⟨some 32, some (29, true), .bin .leq (.t 31) (.k (.s (.int .i64 255)))⟩,
 ⟨some 33, none, .pick (.t 29) (.t 32) (.k (.s (.bool false)))⟩,
 ⟨some 2, none, .mov (.t 33)⟩] [2]) (
 .ret))) (
 .seq (
 .reg [
 ⟨some 35, none, .bin .eql (.t 6) (.k (.s (.int .i64 3)))⟩,
 ⟨some 34, none, .mov (.t 35)⟩] [1, 6, 34]) (
 .cond (.t 34) (
 .seq (
 .drw [
 ⟨some 36, none, .fad (.t 1) 17⟩,
 ⟨some 37, none, .load (.t 36) 1 false⟩,
 ⟨some 38, none, .call false 118 0 [.t 37]⟩,
 ⟨some 39, none, .fad (.t 1) 17⟩,
 ⟨some 40, none, .load (.t 39) 1 false⟩,
 ⟨some 41, none, .bin .eql (.t 38) (.t 40)⟩,
 ⟨some 2, none, .mov (.t 41)⟩] [] [] [2]) (
 .ret)) (
 .seq (
 .reg [
 ⟨some 43, none, .bin .eql (.t 6) (.k (.s (.int .i64 4)))⟩,
 ⟨some 42, none, .mov (.t 43)⟩] [1, 6, 42]) (
 .cond (.t 42) (
 .seq (
 .reg [
 ⟨some 44, none, .fad (.t 1) 9⟩,
 ⟨some 45, none, .load (.t 44) 1 false⟩,
 ⟨some 46, none, .len (.t 45)⟩,
 ⟨some 47, none, .bin .quo (.t 46) (.k (.s (.int .i64 32)))⟩,
 ⟨some 4, none, .mov (.t 47)⟩] [1, 4]) (
 .seq (
 .reg [
 ⟨some 48, none, .fad (.t 1) 9⟩,
 ⟨some 49, none, .load (.t 48) 1 false⟩,
 ⟨some 50, none, .len (.t 49)⟩,
 ⟨some 51, none, .bin .rem (.t 50) (.k (.s (.int .i64 32)))⟩,
 ⟨some 52, none, .bin .eql (.t 51) (.k (.s (.int .i64 0)))⟩,
 ⟨some 53, none, .mov (.t 52)⟩,
 ⟨some 54, some (53, true), .mov (.t 4)⟩,
 ⟨some 55, some (53, true), .bin .geq (.t 54) (.k (.s (.int .i64 1)))⟩,
 ⟨some 56, none, .pick (.t 53) (.t 55) (.k (.s (.bool false)))⟩,
 ⟨some 57, none, .mov (.t 56)⟩,
 ⟨some 58, some (57, true), .mov (.t 4)⟩,
 ⟨some 59, some (57, true), .bin .leq (.t 58) (.k (.s (.int .i64 4)))⟩,
 ⟨some 60, none, .pick (.t 57) (.t 59) (.k (.s (.bool false)))⟩,
 ⟨some 2, none, .mov (.t 60)⟩] [2]) (
 .ret))) (
 .seq (
 .reg [
 ⟨some 62, none, .bin .eql (.t 6) (.k (.s (.int .i64 5)))⟩,
 ⟨some 61, none, .mov (.t 62)⟩] [1, 61]) (
 .cond (.t 61) (
 .seq (
 .reg [
 ⟨some 63, none, .fad (.t 1) 18⟩,
 ⟨some 64, none, .sla (.t 63) none none 4 2 true⟩,
 ⟨some 65, none, .call false 120 0 [.t 64, .k (.fn 121 [] [])]⟩,
 ⟨some 66, none, .un .not (.t 65)⟩,
 ⟨some 2, none, .mov (.t 66)⟩] [2]) (
 .ret)) (
 .skip))))))))))) (
 .seq (
 .reg [
 ⟨some 2, none, .mov (.k (.s (.bool true)))⟩] [2]) (
 .ret))),
 [.t 2], none⟩

/-- bailey/thing.plainOf -/
def F80 : FnIR := ⟨24,
 .seq (
 .reg [
 ⟨some 1, none, .bxl (.t 0)⟩,
 ⟨some 2, none, .alloc [.s (.int .u64 0), .s (.int .i64 0), .s (.int .i64 0), .s (.int .i64 0), .s (.int .i64 0), .s (.int .i64 0), .s (.int .u64 0), .s (.int .u64 0), .s (.int .u64 0), .s (.int .u64 0), .s (.bool false), .s (.int .u64 0), .s (.int .u64 0), .s (.int .u64 0), .s (.int .u64 0), .s (.int .u64 0), .s (.int .u64 0), .s (.int .u64 0), .s (.int .u64 0), .s (.int .u64 0)]⟩] [1, 2]) (
 .seq (
 .reg [
 ⟨some 3, none, .fad (.t 1) 0⟩,
 ⟨some 4, none, .load (.t 3) 1 false⟩,
 ⟨some 5, none, .fad (.t 1) 1⟩,
 ⟨some 6, none, .load (.t 5) 1 false⟩,
 ⟨some 7, none, .fad (.t 1) 6⟩,
 ⟨some 8, none, .load (.t 7) 1 false⟩,
 ⟨some 9, none, .fad (.t 1) 7⟩,
 ⟨some 10, none, .load (.t 9) 1 false⟩,
 ⟨some 11, none, .fad (.t 1) 14⟩,
 ⟨some 12, none, .load (.t 11) 1 false⟩,
 ⟨some 13, none, .fad (.t 1) 15⟩,
 ⟨some 14, none, .load (.t 13) 1 false⟩,
 ⟨some 15, none, .fad (.t 1) 10⟩,
 ⟨some 16, none, .load (.t 15) 4 true⟩,
 ⟨some 17, none, .fad (.t 1) 16⟩,
 ⟨some 18, none, .load (.t 17) 1 false⟩,
 ⟨some 19, none, .fad (.t 1) 17⟩,
 ⟨some 20, none, .load (.t 19) 1 false⟩,
 ⟨some 21, none, .fad (.t 1) 18⟩,
 ⟨some 22, none, .load (.t 21) 8 true⟩,
 ⟨some 23, none, .build [.s (.int .u64 0), .s (.int .i64 0), .s (.int .i64 0), .s (.int .i64 0), .s (.int .i64 0), .s (.int .i64 0), .s (.int .u64 0), .s (.int .u64 0), .s (.int .u64 0), .s (.int .u64 0), .s (.bool false), .s (.int .u64 0), .s (.int .u64 0), .s (.int .u64 0), .s (.int .u64 0), .s (.int .u64 0), .s (.int .u64 0), .s (.int .u64 0), .s (.int .u64 0), .s (.int .u64 0)] [(0, 1, .t 4), (1, 1, .t 6), (2, 1, .t 8), (3, 1, .t 10), (4, 1, .t 12), (5, 1, .t 14), (6, 4, .t 16), (10, 1, .t 18), (11, 1, .t 20), (12, 8, .t 22)]⟩,
 ⟨none, none, .store (.t 2) (.t 23) 20⟩] [2]) (
 .ret)),
 [.c 2 20 true], none⟩

/-- bailey/thing.sameLabel -/
def F81 : FnIR := ⟨17,
 .seq (
 .reg [
 ⟨some 2, none, .bxl (.t 0)⟩,
 ⟨some 3, none, .bxl (.t 1)⟩,
 ⟨some 4, none, .mov (.k (.s (.bool false)))⟩] [2, 3]) (
 .seq (
 .reg [
 ⟨some 5, none, .fad (.t 2) 0⟩,
 ⟨some 6, none, .load (.t 5) 1 false⟩,
 ⟨some 7, none, .fad (.t 3) 0⟩,
 ⟨some 8, none, .load (.t 7) 1 false⟩,
 ⟨some 9, none, .bin .eql (.t 6) (.t 8)⟩,
 ⟨some 10, none, .mov (.t 9)⟩,
 ⟨some 11, some (10, true), .fad (.t 2) 1⟩,
 ⟨some 12, some (10, true), .load (.t 11) 1 false⟩,
 ⟨some 13, some (10, true), .fad (.t 3) 1⟩,
 ⟨some 14, some (10, true), .load (.t 13) 1 false⟩,
 ⟨some 15, some (10, true), .call false 112 0 [.t 12, .t 14]⟩,
 ⟨some 16, none, .pick (.t 10) (.t 15) (.k (.s (.bool false)))⟩,
 ⟨some 4, none, .mov (.t 16)⟩] [4]) (
 .ret)),
 [.t 4], none⟩

/-- slices.Equal[[]bailey/api.Link,bailey/api.Link] -/
def F82 : FnIR := ⟨26,
 .seq (
 .reg [
 ⟨some 4, none, .mov (.k (.s (.bool false)))⟩] [0, 1]) (
 .seq (
 .seq (
 .reg [
 ⟨some 6, none, .mov (.t 0)⟩,
 ⟨some 7, none, .len (.t 6)⟩,
 ⟨some 8, none, .mov (.t 1)⟩,
 ⟨some 9, none, .len (.t 8)⟩,
 ⟨some 10, none, .bin .neq (.t 7) (.t 9)⟩] [0, 1, 10]) (
 .cond (.t 10) (
 .seq (
 .reg [
 ⟨some 4, none, .mov (.k (.s (.bool false)))⟩] [4]) (
 .ret)) (
 .skip))) (
 .seq (
 .seq (
 .reg [
 ⟨some 11, none, .mov (.t 0)⟩,
 ⟨some 12, none, .len (.t 11)⟩,
 ⟨some 13, none, .mov (.k (.s (.int .i64 0)))⟩] [0, 1, 12, 13]) (
 .block 0 (
 .loop (
 .seq (
 .reg [
 ⟨some 14, none, .bin .lss (.t 13) (.t 12)⟩] [0, 1, 12, 13, 14]) (
 .seq (
 .cond (.t 14) (
 .skip) (
 .exit 0)) (
 .seq (
 .block 1 (
 .seq (
 .reg [
 ⟨some 15, none, .mov (.t 13)⟩,
 ⟨some 5, none, .mov (.t 15)⟩] [0, 1, 5, 12, 13]) (
 .seq (
 .drw [
 ⟨some 16, none, .mov (.t 0)⟩,
 ⟨some 17, none, .mov (.t 5)⟩,
 ⟨some 18, none, .ixa (.t 16) (.t 17) 2 none⟩,
 ⟨some 19, none, .load (.t 18) 2 true⟩,
 ⟨some 20, none, .mov (.t 1)⟩,
 ⟨some 21, none, .mov (.t 5)⟩,
 ⟨some 22, none, .ixa (.t 20) (.t 21) 2 none⟩,
 ⟨some 23, none, .load (.t 22) 2 true⟩,
 ⟨some 24, none, .eqk (.cells [.i, .i]) true (.t 19) (.t 23)⟩] [] [] [0, 1, 12, 13, 24]) (
 .cond (.t 24) (
 .seq (
 .reg [
 ⟨some 4, none, .mov (.k (.s (.bool false)))⟩] [4]) (
 .ret)) (
 .skip))))) (
 .reg [
 ⟨some 25, none, .bin .add (.t 13) (.k (.s (.int .i64 1)))⟩,
 ⟨some 13, none, .mov (.t 25)⟩] [0, 1, 12, 13]))))))) (
 .seq (
 .reg [
 ⟨some 4, none, .mov (.k (.s (.bool true)))⟩] [4]) (
 .ret)))),
 [.t 4], none⟩

/-- slices.Equal[[]byte,byte] -/
def F83 : FnIR := ⟨26,
 .seq (
 .reg [
 ⟨some 4, none, .mov (.k (.s (.bool false)))⟩] [0, 1]) (
 .seq (
 .seq (
 .reg [
 ⟨some 6, none, .mov (.t 0)⟩,
 ⟨some 7, none, .len (.t 6)⟩,
 ⟨some 8, none, .mov (.t 1)⟩,
 ⟨some 9, none, .len (.t 8)⟩,
 ⟨some 10, none, .bin .neq (.t 7) (.t 9)⟩] [0, 1, 10]) (
 .cond (.t 10) (
 .seq (
 .reg [
 ⟨some 4, none, .mov (.k (.s (.bool false)))⟩] [4]) (
 .ret)) (
 .skip))) (
 .seq (
 .seq (
 .reg [
 ⟨some 11, none, .mov (.t 0)⟩,
 ⟨some 12, none, .len (.t 11)⟩,
 ⟨some 13, none, .mov (.k (.s (.int .i64 0)))⟩] [0, 1, 12, 13]) (
 .block 0 (
 .loop (
 .seq (
 .reg [
 ⟨some 14, none, .bin .lss (.t 13) (.t 12)⟩] [0, 1, 12, 13, 14]) (
 .seq (
 .cond (.t 14) (
 .skip) (
 .exit 0)) (
 .seq (
 .block 1 (
 .seq (
 .reg [
 ⟨some 15, none, .mov (.t 13)⟩,
 ⟨some 5, none, .mov (.t 15)⟩] [0, 1, 5, 12, 13]) (
 .seq (
 .drw [
 ⟨some 16, none, .mov (.t 0)⟩,
 ⟨some 17, none, .mov (.t 5)⟩,
 ⟨some 18, none, .ixa (.t 16) (.t 17) 1 none⟩,
 ⟨some 19, none, .load (.t 18) 1 false⟩,
 ⟨some 20, none, .mov (.t 1)⟩,
 ⟨some 21, none, .mov (.t 5)⟩,
 ⟨some 22, none, .ixa (.t 20) (.t 21) 1 none⟩,
 ⟨some 23, none, .load (.t 22) 1 false⟩,
 ⟨some 24, none, .bin .neq (.t 19) (.t 23)⟩] [] [] [0, 1, 12, 13, 24]) (
 .cond (.t 24) (
 .seq (
 .reg [
 ⟨some 4, none, .mov (.k (.s (.bool false)))⟩] [4]) (
 .ret)) (
 .skip))))) (
 .reg [
 ⟨some 25, none, .bin .add (.t 13) (.k (.s (.int .i64 1)))⟩,
 ⟨some 13, none, .mov (.t 25)⟩] [0, 1, 12, 13]))))))) (
 .seq (
 .reg [
 ⟨some 4, none, .mov (.k (.s (.bool true)))⟩] [4]) (
 .ret)))),
 [.t 4], none⟩

/-- slices.Clone[[]bailey/api.Cat,bailey/api.Cat] -/
def F84 : FnIR := ⟨8,
 .seq (
 .reg [
 ⟨some 2, none, .mov (.k (.lit .nil []))⟩] [0]) (
 .seq (
 .seq (
 .reg [
 ⟨some 3, none, .mov (.t 0)⟩,
 ⟨some 4, none, .eqk .nils false (.t 3) (.k (.lit .nil []))⟩] [0, 4]) (
 .cond (.t 4) (
 .seq (
 .reg [
 ⟨some 2, none, .mov (.k (.lit .nil []))⟩] [2]) (
 .ret)) (
 .skip))) (
 .seq (
 .reg [
 ⟨some 5, none, .bsl true 2 true [.s (.int .u64 0), .s (.int .i64 0)] 0 []⟩,
 ⟨some 6, none, .mov (.t 0)⟩,
 ⟨some 7, none, .app false (.t 5) (.t 6) 2 16 true⟩,
 ⟨some 2, none, .mov (.t 7)⟩] [2]) (
 .ret))),
 [.t 2], none⟩

/-- slices.Clone[[]byte,byte] -/
def F85 : FnIR := ⟨8,
 .seq (
 .reg [
 ⟨some 2, none, .mov (.k (.lit .nil []))⟩] [0]) (
 .seq (
 .seq (
 .reg [
 ⟨some 3, none, .mov (.t 0)⟩,
 ⟨some 4, none, .eqk .nils false (.t 3) (.k (.lit .nil []))⟩] [0, 4]) (
 .cond (.t 4) (
 .seq (
 .reg [
 ⟨some 2, none, .mov (.k (.lit .nil []))⟩] [2]) (
 .ret)) (
 .skip))) (
 .seq (
 .reg [
 ⟨some 5, none, .bsl true 1 false [.s (.int .u8 0)] 0 []⟩,
 ⟨some 6, none, .mov (.t 0)⟩,
 ⟨some 7, none, .app false (.t 5) (.t 6) 1 1 false⟩,
 ⟨some 2, none, .mov (.t 7)⟩] [2]) (
 .ret))),
 [.t 2], none⟩

/-- bailey/kern.check -/
def F86 : FnIR := ⟨8,
 .seq (
 .reg [
 ⟨some 4, none, .mov (.t 0)⟩,
 ⟨some 5, none, .un .not (.t 4)⟩] [1, 5]) (
 .cond (.t 5) (
 .reg [
 ⟨some 6, none, .mov (.t 1)⟩,
 ⟨some 7, none, .mki 27 (.t 6)⟩,
 ⟨none, none, .pan (.t 7)⟩] []) (
 .skip)),
 [], none⟩

/-- (*bailey/kern.act).make -/
def F87 : FnIR := ⟨186,
 .seq (
 .reg [
 ⟨some 7, none, .mov (.t 0)⟩,
 ⟨some 8, none, .mov (.t 0)⟩,
 ⟨some 9, none, .nck (.t 8)⟩,
 ⟨some 10, none, .fad (.t 9) 0⟩,
 ⟨some 11, none, .fad (.t 10) 3⟩,
 ⟨some 12, none, .load (.t 11) 1 false⟩,
 ⟨some 13, none, .call true 122 0 [.t 7, .t 12]⟩,
 ⟨some 2, none, .alloc [.s (.int .u64 0), .s (.int .i64 0), .s (.int .i64 0), .lit .nil [], .s (.int .i64 0), .lit .nil [], .s (.int .i64 0), .s (.int .i64 0), .lit .nil [], .lit .nil [], .s (.int .u64 0), .s (.int .u64 0), .s (.int .u64 0), .s (.int .u64 0), .s (.int .i64 0), .s (.int .i64 0), .s (.bool false), .s (.int .u64 0), .s (.int .u64 0), .s (.int .u64 0), .s (.int .u64 0), .s (.int .u64 0), .s (.int .u64 0), .s (.int .u64 0), .s (.int .u64 0), .s (.int .u64 0)]⟩,
 ⟨none, none, .store (.t 2) (.t 13) 26⟩] [0, 2]) (
 .seq (
 .reg [
 ⟨some 14, none, .mov (.t 0)⟩,
 ⟨some 15, none, .load (.t 2) 26 true⟩,
 ⟨some 16, none, .call true 123 0 [.t 14, .t 15]⟩] [0, 2]) (
 .seq (
 .drw [
 ⟨some 17, none, .mov (.t 0)⟩,
 ⟨some 18, none, .nck (.t 17)⟩,
 ⟨some 19, none, .fad (.t 18) 0⟩,
 ⟨some 20, none, .fad (.t 19) 0⟩,
 ⟨some 21, none, .load (.t 20) 1 false⟩,
 ⟨some 22, none, .mov (.t 0)⟩,
 ⟨some 23, none, .nck (.t 22)⟩,
 ⟨some 24, none, .fad (.t 23) 0⟩,
 ⟨some 25, none, .fad (.t 24) 6⟩,
 ⟨some 26, none, .load (.t 25) 2 true⟩,
 ⟨some 27, none, .build [.s (.int .u64 0), .s (.int .i64 0), .s (.int .i64 0), .lit .nil [], .s (.int .i64 0), .lit .nil [], .s (.int .i64 0), .s (.int .i64 0), .lit .nil [], .lit .nil [], .s (.int .u64 0), .s (.int .u64 0), .s (.int .u64 0), .s (.int .u64 0), .s (.int .i64 0), .s (.int .i64 0), .s (.bool false), .s (.int .u64 0), .s (.int .u64 0), .s (.int .u64 0), .s (.int .u64 0), .s (.int .u64 0), .s (.int .u64 0), .s (.int .u64 0), .s (.int .u64 0), .s (.int .u64 0)] [(1, 1, .t 21), (2, 2, .t 26), (6, 1, .k (.s (.int .i64 1)))]⟩,
 ⟨some 3, none, .alloc [.s (.int .u64 0), .s (.int .i64 0), .s (.int .i64 0), .lit .nil [], .s (.int .i64 0), .lit .nil [], .s (.int .i64 0), .s (.int .i64 0), .lit .nil [], .lit .nil [], .s (.int .u64 0), .s (.int .u64 0), .s (.int .u64 0), .s (.int .u64 0), .s (.int .i64 0), .s (.int .i64 0), .s (.bool false), .s (.int .u64 0), .s (.int .u64 0), .s (.int .u64 0), .s (.int .u64 0), .s (.int .u64 0), .s (.int .u64 0), .s (.int .u64 0), .s (.int .u64 0), .s (.int .u64 0)]⟩,
 ⟨none, none, .store (.t 3) (.t 27) 26⟩] [] [] [0, 2, 3]) (
 .seq (
 .reg [
 ⟨some 28, none, .mov (.t 0)⟩,
 ⟨some 29, none, .nck (.t 28)⟩,
 ⟨some 30, none, .fad (.t 29) 14⟩,
 ⟨some 31, none, .load (.t 30) 26 true⟩,
 ⟨some 32, none, .call false 124 0 [.t 31]⟩,
 ⟨some 4, none, .alloc [.s (.int .i64 0), .lit .nil [], .s (.int .i64 0), .lit .nil []]⟩,
 ⟨none, none, .store (.t 4) (.t 32) 4⟩] [0, 2, 3, 4]) (
 .seq (
 .seq (
 .reg [
 ⟨some 33, none, .mov (.t 0)⟩,
 ⟨some 34, none, .nck (.t 33)⟩,
 ⟨some 35, none, .fad (.t 34) 0⟩,
 ⟨some 36, none, .fad (.t 35) 0⟩,
 ⟨some 37, none, .load (.t 36) 1 false⟩] [0, 2, 3, 4, 37]) (
 .block 0 (
 .seq (
 .reg [
 ⟨some 39, none, .bin .eql (.t 37) (.k (.s (.int .i64 1)))⟩,
 ⟨some 38, none, .mov (.t 39)⟩] [0, 2, 3, 4, 37, 38]) (
 .cond (.t 38) (
 .seq (
 .drw [
 ⟨some 40, none, .mov (.t 0)⟩,
 ⟨some 41, none, .nck (.t 40)⟩,
 ⟨some 42, none, .fad (.t 41) 0⟩,
 ⟨some 43, none, .fad (.t 42) 1⟩,
 ⟨some 44, none, .load (.t 43) 1 false⟩,
 ⟨some 45, none, .fad (.t 3) 1⟩,
 ⟨none, none, .store (.t 45) (.k (.s (.int .i64 1))) 1⟩,
 ⟨some 46, none, .fad (.t 3) 6⟩,
 ⟨none, none, .store (.t 46) (.t 44) 1⟩] [] [(4, 6)] [0, 2, 3, 4]) (
 .reg [
 ⟨some 47, none, .mov (.t 0)⟩,
 ⟨some 48, none, .nck (.t 47)⟩,
 ⟨some 49, none, .fad (.t 48) 0⟩,
 ⟨some 50, none, .fad (.t 49) 1⟩,
 ⟨some 51, none, .load (.t 50) 1 false⟩,
 ⟨some 52, none, .bin .geq (.t 51) (.k (.s (.int .i64 1)))⟩,
 ⟨some 53, none, .mov (.t 52)⟩,
 ⟨some 54, some (53, true), .mov (.t 0)⟩,
 ⟨some 55, some (53, true), .nck (.t 54)⟩,
 ⟨some 56, some (53, true), .fad (.t 55) 0⟩,
 ⟨some 57, some (53, true), .fad (.t 56) 1⟩,
 ⟨some 58, some (53, true), .load (.t 57) 1 false⟩,
 ⟨some 59, some (53, true), .bin .leq (.t 58) (.k (.s (.int .i64 48)))⟩,
 ⟨some 60, none, .pick (.t 53) (.t 59) (.k (.s (.bool false)))⟩,
 ⟨some 61, none, .call false 86 0 [.t 60, .k (.s (.int .i64 205))]⟩] [0, 2, 3, 4])) (
 .seq (
 .reg [
 ⟨some 63, none, .bin .eql (.t 37) (.k (.s (.int .i64 2)))⟩,
 ⟨some 62, none, .mov (.t 63)⟩] [0, 2, 3, 4, 37, 62]) (
 .cond (.t 62) (
 .seq (
 .reg [
 ⟨some 64, none, .mov (.t 0)⟩,
 ⟨some 65, none, .nck (.t 64)⟩,
 ⟨some 66, none, .fad (.t 65) 0⟩,
 ⟨some 67, none, .fad (.t 66) 1⟩,
 ⟨some 68, none, .load (.t 67) 1 false⟩,
 ⟨some 69, none, .bin .geq (.t 68) (.k (.s (.int .i64 1)))⟩,
 ⟨some 70, none, .mov (.t 69)⟩,
 ⟨some 71, some (70, true), .mov (.t 0)⟩,
 ⟨some 72, some (70, true), .nck (.t 71)⟩,
 ⟨some 73, some (70, true), .fad (.t 72) 0⟩,
 ⟨some 74, some (70, true), .fad (.t 73) 1⟩,
 ⟨some 75, some (70, true), .load (.t 74) 1 false⟩,
 ⟨some 76, some (70, true), .bin .leq (.t 75) (.k (.s (.int .i64 4)))⟩,
 ⟨some 77, none, .pick (.t 70) (.t 76) (.k (.s (.bool false)))⟩,
 ⟨some 78, none, .call false 86 0 [.t 77, .k (.s (.int .i64 205))]⟩] [0, 2, 3, 4]) (
 .drw [
 ⟨some 79, none, .mov (.t 0)⟩,
 ⟨some 80, none, .nck (.t 79)⟩,
 ⟨some 81, none, .fad (.t 80) 0⟩,
 ⟨some 82, none, .fad (.t 81) 1⟩,
 ⟨some 83, none, .load (.t 82) 1 false⟩,
 ⟨some 84, none, .bin .add (.t 83) (.k (.s (.int .i64 1)))⟩,
 ⟨some 85, none, .mov (.t 0)⟩,
 ⟨some 86, none, .nck (.t 85)⟩,
 ⟨some 87, none, .fad (.t 86) 0⟩,
 ⟨some 88, none, .fad (.t 87) 1⟩,
 ⟨some 89, none, .load (.t 88) 1 false⟩,
 ⟨some 90, none, .bin .mul (.t 89) (.k (.s (.int .i64 32)))⟩,
 ⟨some 91, none, .msl true (.t 90) (.t 90) 1 1 false [.s (.int .u8 0)]⟩,
 ⟨some 92, none, .fad (.t 3) 1⟩,
 ⟨none, none, .store (.t 92) (.k (.s (.int .i64 4))) 1⟩,
 ⟨some 93, none, .fad (.t 3) 6⟩,
 ⟨none, none, .store (.t 93) (.t 84) 1⟩,
 ⟨some 94, none, .fad (.t 3) 9⟩,
 ⟨none, none, .store (.t 94) (.t 91) 1⟩] [] [(4, 14), (10, 14), (10, 16)] [0, 2, 3, 4])) (
 .seq (
 .reg [
 ⟨some 96, none, .bin .eql (.t 37) (.k (.s (.int .i64 3)))⟩,
 ⟨some 95, none, .mov (.t 96)⟩] [0, 2, 3, 4, 37, 95]) (
 .cond (.t 95) (
 .drw [
 ⟨some 97, none, .mov (.t 0)⟩,
 ⟨some 98, none, .nck (.t 97)⟩,
 ⟨some 99, none, .fad (.t 98) 0⟩,
 ⟨some 100, none, .fad (.t 99) 8⟩,
 ⟨some 101, none, .load (.t 100) 2 true⟩,
 ⟨some 102, none, .mov (.t 0)⟩,
 ⟨some 103, none, .nck (.t 102)⟩,
 ⟨some 104, none, .fad (.t 103) 13⟩,
 ⟨some 105, none, .load (.t 104) 1 false⟩,
 ⟨some 106, none, .fad (.t 3) 1⟩,
 ⟨none, none, .store (.t 106) (.k (.s (.int .i64 2))) 1⟩,
 ⟨some 107, none, .fad (.t 3) 4⟩,
 ⟨none, none, .store (.t 107) (.t 101) 2⟩,
 ⟨some 108, none, .fad (.t 3) 15⟩,
 ⟨none, none, .store (.t 108) (.t 105) 1⟩] [] [(4, 10), (8, 10), (8, 12)] [0, 2, 3, 4]) (
 .seq (
 .reg [
 ⟨some 110, none, .bin .eql (.t 37) (.k (.s (.int .i64 4)))⟩,
 ⟨some 109, none, .mov (.t 110)⟩] [0, 2, 3, 4, 37, 109]) (
 .cond (.t 109) (
 .drw [
 ⟨some 111, none, .mov (.t 0)⟩,
 ⟨some 112, none, .nck (.t 111)⟩,
 ⟨some 113, none, .fad (.t 112) 0⟩,
 ⟨some 114, none, .fad (.t 113) 8⟩,
 ⟨some 115, none, .load (.t 114) 2 true⟩,
 ⟨some 116, none, .mov (.t 0)⟩,
 ⟨some 117, none, .nck (.t 116)⟩,
 ⟨some 118, none, .fad (.t 117) 0⟩,
 ⟨some 119, none, .fad (.t 118) 11⟩,
 ⟨some 120, none, .load (.t 119) 1 false⟩,
 ⟨some 121, none, .call false 118 0 [.t 120]⟩,
 ⟨some 122, none, .fad (.t 3) 1⟩,
 ⟨none, none, .store (.t 122) (.k (.s (.int .i64 3))) 1⟩,
 ⟨some 123, none, .fad (.t 3) 4⟩,
 ⟨none, none, .store (.t 123) (.t 115) 2⟩,
 ⟨some 124, none, .fad (.t 3) 17⟩,
 ⟨none, none, .store (.t 124) (.t 121) 1⟩] [] [(4, 12)] [0, 2, 3, 4]) (
 .seq (
 .reg [
 ⟨some 126, none, .bin .eql (.t 37) (.k (.s (.int .i64 5)))⟩,
 ⟨some 125, none, .mov (.t 126)⟩] [0, 2, 3, 4, 125]) (
 .cond (.t 125) (
 .reg [
 ⟨some 127, none, .fad (.t 3) 1⟩,
 ⟨none, none, .store (.t 127) (.k (.s (.int .i64 5))) 1⟩] [0, 2, 3, 4]) (
 .skip))))))))))))) (
 .seq (
 .seq (
 .reg [
 ⟨some 128, none, .mov (.t 0)⟩,
 ⟨some 129, none, .nck (.t 128)⟩,
 ⟨some 130, none, .fad (.t 129) 0⟩,
 ⟨some 131, none, .fad (.t 130) 0⟩,
 ⟨some 132, none, .load (.t 131) 1 false⟩,
 ⟨some 133, none, .bin .eql (.t 132) (.k (.s (.int .i64 3)))⟩,
 ⟨some 134, none, .mov (.t 133)⟩,
 ⟨some 135, some (134, false), .mov (.t 0)⟩,
 ⟨some 136, some (134, false), .nck (.t 135)⟩,
 ⟨some 137, some (134, false), .fad (.t 136) 0⟩,
 ⟨some 138, some (134, false), .fad (.t 137) 0⟩,
 ⟨some 139, some (134, false), .load (.t 138) 1 false⟩,
 ⟨some 140, some (134, false), .bin .eql (.t 139) (.k (.s (.int .i64 4)))⟩,
 ⟨some 141, none, .pick (.t 134) (.k (.s (.bool true))) (.t 140)⟩] [0, 2, 3, 4, 141]) (
 .cond (.t 141) (
 .drw [
 ⟨some 142, none, .load (.t 4) 4 true⟩,
 ⟨some 143, none, .mov (.t 0)⟩,
 ⟨some 144, none, .nck (.t 143)⟩,
 ⟨some 145, none, .fad (.t 144) 0⟩,
 ⟨some 146, none, .fad (.t 145) 6⟩,
 ⟨some 147, none, .load (.t 146) 2 true⟩,
 ⟨some 148, none, .mov (.t 0)⟩,
 ⟨some 149, none, .nck (.t 148)⟩,
 ⟨some 150, none, .fad (.t 149) 0⟩,
 ⟨some 151, none, .fad (.t 150) 8⟩,
 ⟨some 152, none, .load (.t 151) 2 true⟩,
 ⟨some 153, none, .call false 125 0 [.t 142, .t 147, .t 152]⟩,
 ⟨some 154, none, .call false 86 0 [.t 153, .k (.s (.int .i64 204))]⟩] [11, 12] [] [0, 2, 3]) (
 .drw [
 ⟨some 155, none, .load (.t 4) 4 true⟩,
 ⟨some 156, none, .mov (.t 0)⟩,
 ⟨some 157, none, .nck (.t 156)⟩,
 ⟨some 158, none, .fad (.t 157) 0⟩,
 ⟨some 159, none, .fad (.t 158) 6⟩,
 ⟨some 160, none, .load (.t 159) 2 true⟩,
 ⟨some 161, none, .call false 126 0 [.t 155, .t 160]⟩,
 ⟨some 162, none, .call false 86 0 [.t 161, .k (.s (.int .i64 204))]⟩] [6, 7] [] [0, 2, 3]))) (
 .seq (
 .reg [
 ⟨some 164, none, .load (.t 2) 26 true⟩,
 ⟨some 165, none, .fad (.t 3) 6⟩,
 ⟨some 166, none, .load (.t 165) 1 false⟩,
 ⟨some 167, none, .call false 127 0 [.t 164, .t 166]⟩,
 ⟨some 163, none, .mov (.t 167)⟩,
 ⟨some 168, none, .ext (.t 163) 0⟩,
 ⟨some 169, none, .ext (.t 163) 1⟩,
 ⟨some 170, none, .ext (.t 163) 2⟩,
 ⟨none, none, .store (.t 2) (.t 168) 26⟩,
 ⟨some 5, none, .mov (.t 169)⟩,
 ⟨some 6, none, .mov (.t 170)⟩] [0, 2, 3, 5, 6]) (
 .seq (
 .reg [
 ⟨some 171, none, .mov (.t 6)⟩,
 ⟨some 172, none, .call false 128 0 [.t 171]⟩] [0, 2, 3, 5]) (
 .seq (
 .reg [
 ⟨some 173, none, .mov (.t 5)⟩,
 ⟨some 174, none, .fad (.t 3) 0⟩,
 ⟨none, none, .store (.t 174) (.t 173) 1⟩] [0, 2, 3, 5]) (
 .seq (
 .reg [
 ⟨some 175, none, .mov (.t 0)⟩,
 ⟨some 176, none, .load (.t 2) 26 true⟩,
 ⟨some 177, none, .call true 129 0 [.t 175, .t 176]⟩] [0, 3, 5]) (
 .seq (
 .reg [
 ⟨some 178, none, .mov (.t 0)⟩,
 ⟨some 179, none, .load (.t 3) 26 true⟩,
 ⟨some 180, none, .call true 129 0 [.t 178, .t 179]⟩] [0, 5]) (
 .reg [
 ⟨some 181, none, .mov (.t 0)⟩,
 ⟨some 182, none, .mov (.t 5)⟩,
 ⟨some 183, none, .nck (.t 181)⟩,
 ⟨some 184, none, .fad (.t 183) 40⟩,
 ⟨some 185, none, .fad (.t 184) 1⟩,
 ⟨none, none, .store (.t 185) (.t 182) 1⟩] []))))))))))),
 [], none⟩

/-- (*bailey/kern.act).segment -/
def F88 : FnIR := ⟨87,
 .seq (
 .reg [
 ⟨some 3, none, .mov (.t 0)⟩,
 ⟨some 4, none, .call true 130 0 [.t 3, .k (.s (.int .i64 4))]⟩,
 ⟨some 2, none, .alloc [.s (.int .u64 0), .s (.int .i64 0), .s (.int .i64 0), .lit .nil [], .s (.int .i64 0), .lit .nil [], .s (.int .i64 0), .s (.int .i64 0), .lit .nil [], .lit .nil [], .s (.int .u64 0), .s (.int .u64 0), .s (.int .u64 0), .s (.int .u64 0), .s (.int .i64 0), .s (.int .i64 0), .s (.bool false), .s (.int .u64 0), .s (.int .u64 0), .s (.int .u64 0), .s (.int .u64 0), .s (.int .u64 0), .s (.int .u64 0), .s (.int .u64 0), .s (.int .u64 0), .s (.int .u64 0)]⟩,
 ⟨none, none, .store (.t 2) (.t 4) 26⟩] [0, 2]) (
 .seq (
 .seq (
 .reg [
 ⟨some 5, none, .mov (.t 0)⟩,
 ⟨some 6, none, .nck (.t 5)⟩,
 ⟨some 7, none, .fad (.t 6) 0⟩,
 ⟨some 8, none, .fad (.t 7) 0⟩,
 ⟨some 9, none, .load (.t 8) 1 false⟩,
 ⟨some 10, none, .bin .eql (.t 9) (.k (.s (.int .i64 6)))⟩] [0, 2, 10]) (
 .cond (.t 10) (
 .seq (
 .reg [
 ⟨some 11, none, .mov (.t 0)⟩,
 ⟨some 12, none, .load (.t 2) 26 true⟩,
 ⟨some 13, none, .call true 131 0 [.t 11, .t 12]⟩] [0, 2]) (
 .seq (
 .drw [
 ⟨some 14, none, .load (.t 2) 26 true⟩,
 ⟨some 15, none, .mov (.t 0)⟩,
 ⟨some 16, none, .nck (.t 15)⟩,
 ⟨some 17, none, .fad (.t 16) 0⟩,
 ⟨some 18, none, .fad (.t 17) 1⟩,
 ⟨some 19, none, .load (.t 18) 1 false⟩,
 ⟨some 20, none, .mov (.t 0)⟩,
 ⟨some 21, none, .nck (.t 20)⟩,
 ⟨some 22, none, .fad (.t 21) 0⟩,
 ⟨some 23, none, .fad (.t 22) 2⟩,
 ⟨some 24, none, .load (.t 23) 1 false⟩,
 ⟨some 25, none, .call false 132 0 [.t 14, .t 19, .t 24]⟩] [11] [] [0, 2]) (
 .seq (
 .drw [
 ⟨some 26, none, .mov (.t 0)⟩,
 ⟨some 27, none, .fad (.t 2) 9⟩,
 ⟨some 28, none, .load (.t 27) 1 false⟩,
 ⟨some 29, none, .mov (.t 0)⟩,
 ⟨some 30, none, .nck (.t 29)⟩,
 ⟨some 31, none, .fad (.t 30) 0⟩,
 ⟨some 32, none, .fad (.t 31) 1⟩,
 ⟨some 33, none, .load (.t 32) 1 false⟩,
 ⟨some 34, none, .mov (.t 0)⟩,
 ⟨some 35, none, .nck (.t 34)⟩,
 ⟨some 36, none, .fad (.t 35) 0⟩,
 ⟨some 37, none, .fad (.t 36) 1⟩,
 ⟨some 38, none, .load (.t 37) 1 false⟩,
 ⟨some 39, none, .mov (.t 0)⟩,
 ⟨some 40, none, .nck (.t 39)⟩,
 ⟨some 41, none, .fad (.t 40) 0⟩,
 ⟨some 42, none, .fad (.t 41) 2⟩,
 ⟨some 43, none, .load (.t 42) 1 false⟩,
 ⟨some 44, none, .bin .add (.t 38) (.t 43)⟩,
 ⟨some 45, none, .slc (.t 28) (some (.t 33)) (some (.t 44)) none 1 false⟩,
 ⟨some 46, none, .nck (.t 26)⟩,
 ⟨some 47, none, .fad (.t 46) 40⟩,
 ⟨some 48, none, .fad (.t 47) 2⟩,
 ⟨none, none, .store (.t 48) (.t 45) 1⟩] [] [] []) (
 .ret)))) (
 .skip))) (
 .seq (
 .reg [
 ⟨some 49, none, .mov (.t 0)⟩,
 ⟨some 50, none, .load (.t 2) 26 true⟩,
 ⟨some 51, none, .call true 123 0 [.t 49, .t 50]⟩] [0, 2]) (
 .seq (
 .drw [
 ⟨some 52, none, .load (.t 2) 26 true⟩,
 ⟨some 53, none, .mov (.t 0)⟩,
 ⟨some 54, none, .nck (.t 53)⟩,
 ⟨some 55, none, .fad (.t 54) 0⟩,
 ⟨some 56, none, .fad (.t 55) 1⟩,
 ⟨some 57, none, .load (.t 56) 1 false⟩,
 ⟨some 58, none, .mov (.t 0)⟩,
 ⟨some 59, none, .nck (.t 58)⟩,
 ⟨some 60, none, .fad (.t 59) 0⟩,
 ⟨some 61, none, .fad (.t 60) 10⟩,
 ⟨some 62, none, .load (.t 61) 1 false⟩,
 ⟨some 63, none, .len (.t 62)⟩,
 ⟨some 64, none, .call false 132 0 [.t 52, .t 57, .t 63]⟩] [12] [] [0, 2]) (
 .seq (
 .drw [
 ⟨some 65, none, .mov (.t 0)⟩,
 ⟨some 66, none, .fad (.t 2) 9⟩,
 ⟨some 67, none, .load (.t 66) 1 false⟩,
 ⟨some 68, none, .mov (.t 0)⟩,
 ⟨some 69, none, .nck (.t 68)⟩,
 ⟨some 70, none, .fad (.t 69) 0⟩,
 ⟨some 71, none, .fad (.t 70) 1⟩,
 ⟨some 72, none, .load (.t 71) 1 false⟩,
 ⟨some 73, none, .slc (.t 67) (some (.t 72)) none none 1 false⟩,
 ⟨some 74, none, .mov (.t 0)⟩,
 ⟨some 75, none, .nck (.t 74)⟩,
 ⟨some 76, none, .fad (.t 75) 0⟩,
 ⟨some 77, none, .fad (.t 76) 10⟩,
 ⟨some 78, none, .load (.t 77) 1 false⟩,
 ⟨some 79, none, .cpy (.t 73) (.t 78) 1 false⟩,
 ⟨some 80, none, .cvi .u64 (.t 79)⟩,
 ⟨some 81, none, .nck (.t 65)⟩,
 ⟨some 82, none, .fad (.t 81) 40⟩,
 ⟨some 83, none, .fad (.t 82) 1⟩,
 ⟨none, none, .store (.t 83) (.t 80) 1⟩] [] [] [0, 2]) (
 .reg [
 ⟨some 84, none, .mov (.t 0)⟩,
 ⟨some 85, none, .load (.t 2) 26 true⟩,
 ⟨some 86, none, .call true 129 0 [.t 84, .t 85]⟩] []))))),
 [], none⟩

/-- (*bailey/kern.act).directory -/
def F89 : FnIR := ⟨115,
 .seq (
 .reg [
 ⟨some 11, none, .mov (.t 0)⟩,
 ⟨some 12, none, .mov (.t 0)⟩,
 ⟨some 13, none, .nck (.t 12)⟩,
 ⟨some 14, none, .fad (.t 13) 0⟩,
 ⟨some 15, none, .fad (.t 14) 3⟩,
 ⟨some 16, none, .load (.t 15) 1 false⟩,
 ⟨some 17, none, .call true 122 0 [.t 11, .t 16]⟩,
 ⟨some 2, none, .alloc [.s (.int .u64 0), .s (.int .i64 0), .s (.int .i64 0), .lit .nil [], .s (.int .i64 0), .lit .nil [], .s (.int .i64 0), .s (.int .i64 0), .lit .nil [], .lit .nil [], .s (.int .u64 0), .s (.int .u64 0), .s (.int .u64 0), .s (.int .u64 0), .s (.int .i64 0), .s (.int .i64 0), .s (.bool false), .s (.int .u64 0), .s (.int .u64 0), .s (.int .u64 0), .s (.int .u64 0), .s (.int .u64 0), .s (.int .u64 0), .s (.int .u64 0), .s (.int .u64 0), .s (.int .u64 0)]⟩,
 ⟨none, none, .store (.t 2) (.t 17) 26⟩] [0, 2]) (
 .seq (
 .reg [
 ⟨some 18, none, .mov (.t 0)⟩,
 ⟨some 19, none, .nck (.t 18)⟩,
 ⟨some 20, none, .fad (.t 19) 0⟩,
 ⟨some 21, none, .fad (.t 20) 0⟩,
 ⟨some 22, none, .load (.t 21) 1 false⟩] [0, 2, 22]) (
 .block 0 (
 .seq (
 .reg [
 ⟨some 24, none, .bin .eql (.t 22) (.k (.s (.int .i64 8)))⟩,
 ⟨some 23, none, .mov (.t 24)⟩] [0, 2, 22, 23]) (
 .cond (.t 23) (
 .seq (
 .reg [
 ⟨some 25, none, .fad (.t 2) 8⟩,
 ⟨some 26, none, .load (.t 25) 1 false⟩,
 ⟨some 27, none, .len (.t 26)⟩,
 ⟨some 28, none, .mov (.k (.s (.int .i64 0)))⟩] [0, 26, 27, 28]) (
 .block 1 (
 .loop (
 .seq (
 .reg [
 ⟨some 29, none, .bin .lss (.t 28) (.t 27)⟩] [0, 26, 27, 28, 29]) (
 .seq (
 .cond (.t 29) (
 .skip) (
 .exit 1)) (
 .seq (
 .block 2 (
 .seq (
 .reg [
 ⟨some 30, none, .ixa (.t 26) (.t 28) 2 none⟩,
 ⟨some 31, none, .load (.t 30) 2 true⟩,
 ⟨some 4, none, .alloc [.s (.int .u64 0), .s (.int .i64 0)]⟩,
 ⟨none, none, .store (.t 4) (.t 31) 2⟩] [0, 4, 26, 27, 28]) (
 .drw [
 ⟨some 32, none, .mov (.t 0)⟩,
 ⟨some 33, none, .mov (.t 0)⟩,
 ⟨some 34, none, .nck (.t 33)⟩,
 ⟨some 35, none, .fad (.t 34) 40⟩,
 ⟨some 36, none, .fad (.t 35) 3⟩,
 ⟨some 37, none, .load (.t 36) 1 false⟩,
 ⟨some 38, none, .fad (.t 4) 0⟩,
 ⟨some 39, none, .load (.t 38) 1 false⟩,
 ⟨some 40, none, .bsl true 1 false [.s (.int .u64 0)] 1 [(0, .t 39)]⟩,
 ⟨some 41, none, .app false (.t 37) (.t 40) 1 8 false⟩,
 ⟨some 42, none, .nck (.t 32)⟩,
 ⟨some 43, none, .fad (.t 42) 40⟩,
 ⟨some 44, none, .fad (.t 43) 3⟩,
 ⟨none, none, .store (.t 44) (.t 41) 1⟩] [] [] [0, 26, 27, 28]))) (
 .reg [
 ⟨some 45, none, .bin .add (.t 28) (.k (.s (.int .i64 1)))⟩,
 ⟨some 28, none, .mov (.t 45)⟩] [0, 26, 27, 28]))))))) (
 .seq (
 .reg [
 ⟨some 47, none, .bin .eql (.t 22) (.k (.s (.int .i64 9)))⟩,
 ⟨some 46, none, .mov (.t 47)⟩] [0, 2, 22, 46]) (
 .cond (.t 46) (
 .seq (
 .reg [
 ⟨some 48, none, .mov (.t 0)⟩,
 ⟨some 49, none, .load (.t 2) 26 true⟩,
 ⟨some 50, none, .call true 123 0 [.t 48, .t 49]⟩] [0]) (
 .seq (
 .drw [
 ⟨some 52, none, .mov (.t 0)⟩,
 ⟨some 53, none, .nck (.t 52)⟩,
 ⟨some 54, none, .fad (.t 53) 12⟩,
 ⟨some 55, none, .load (.t 54) 1 false⟩,
 ⟨some 56, none, .mov (.t 0)⟩,
 ⟨some 57, none, .nck (.t 56)⟩,
 ⟨some 58, none, .fad (.t 57) 0⟩,
 ⟨some 59, none, .fad (.t 58) 3⟩,
 ⟨some 60, none, .load (.t 59) 1 false⟩,
 ⟨some 61, none, .mov (.t 0)⟩,
 ⟨some 62, none, .nck (.t 61)⟩,
 ⟨some 63, none, .fad (.t 62) 0⟩,
 ⟨some 64, none, .fad (.t 63) 4⟩,
 ⟨some 65, none, .load (.t 64) 1 false⟩,
 ⟨some 66, none, .call false 28 0 [.t 55, .t 60, .t 65]⟩,
 ⟨some 51, none, .mov (.t 66)⟩,
 ⟨some 67, none, .ext (.t 51) 0⟩,
 ⟨some 68, none, .ext (.t 51) 1⟩,
 ⟨some 69, none, .ext (.t 51) 2⟩,
 ⟨some 5, none, .mov (.t 67)⟩,
 ⟨some 6, none, .mov (.t 68)⟩,
 ⟨some 7, none, .mov (.t 69)⟩] [14] [] [0, 5, 7]) (
 .seq (
 .reg [
 ⟨some 70, none, .mov (.t 7)⟩,
 ⟨some 71, none, .bin .eql (.t 70) (.k (.s (.int .i64 0)))⟩,
 ⟨some 72, none, .call false 86 0 [.t 71, .k (.s (.int .i64 202))]⟩] [0, 5]) (
 .reg [
 ⟨some 73, none, .mov (.t 0)⟩,
 ⟨some 74, none, .mov (.t 5)⟩,
 ⟨some 75, none, .nck (.t 73)⟩,
 ⟨some 76, none, .fad (.t 75) 12⟩,
 ⟨none, none, .store (.t 76) (.t 74) 1⟩] [])))) (
 .seq (
 .reg [
 ⟨some 78, none, .bin .eql (.t 22) (.k (.s (.int .i64 10)))⟩,
 ⟨some 77, none, .mov (.t 78)⟩] [0, 2, 77]) (
 .cond (.t 77) (
 .seq (
 .reg [
 ⟨some 79, none, .mov (.t 0)⟩,
 ⟨some 80, none, .load (.t 2) 26 true⟩,
 ⟨some 81, none, .call true 123 0 [.t 79, .t 80]⟩] [0, 2]) (
 .seq (
 .drw [
 ⟨some 82, none, .mov (.t 0)⟩,
 ⟨some 83, none, .mov (.t 0)⟩,
 ⟨some 84, none, .nck (.t 83)⟩,
 ⟨some 85, none, .fad (.t 84) 0⟩,
 ⟨some 86, none, .fad (.t 85) 5⟩,
 ⟨some 87, none, .load (.t 86) 1 false⟩,
 ⟨some 88, none, .mov (.t 0)⟩,
 ⟨some 89, none, .nck (.t 88)⟩,
 ⟨some 90, none, .fad (.t 89) 0⟩,
 ⟨some 91, none, .fad (.t 90) 4⟩,
 ⟨some 92, none, .load (.t 91) 1 false⟩,
 ⟨some 93, none, .call true 92 0 [.t 82, .t 87, .t 92]⟩,
 ⟨some 8, none, .alloc [.s (.int .u64 0), .s (.int .i64 0), .s (.int .i64 0), .lit .nil [], .s (.int .i64 0), .lit .nil [], .s (.int .i64 0), .s (.int .i64 0), .lit .nil [], .lit .nil [], .s (.int .u64 0), .s (.int .u64 0), .s (.int .u64 0), .s (.int .u64 0), .s (.int .i64 0), .s (.int .i64 0), .s (.bool false), .s (.int .u64 0), .s (.int .u64 0), .s (.int .u64 0), .s (.int .u64 0), .s (.int .u64 0), .s (.int .u64 0), .s (.int .u64 0), .s (.int .u64 0), .s (.int .u64 0)]⟩,
 ⟨none, none, .store (.t 8) (.t 93) 26⟩] [] [] [0, 2, 8]) (
 .seq (
 .reg [
 ⟨some 94, none, .fad (.t 8) 1⟩,
 ⟨some 95, none, .load (.t 94) 1 false⟩,
 ⟨some 96, none, .bin .eql (.t 95) (.k (.s (.int .i64 4)))⟩,
 ⟨some 97, none, .call false 86 0 [.t 96, .k (.s (.int .i64 203))]⟩] [0, 2, 8]) (
 .seq (
 .reg [
 ⟨some 98, none, .mov (.t 0)⟩,
 ⟨some 99, none, .load (.t 8) 26 true⟩,
 ⟨some 100, none, .call true 123 0 [.t 98, .t 99]⟩] [0, 2, 8]) (
 .seq (
 .reg [
 ⟨some 102, none, .load (.t 2) 26 true⟩,
 ⟨some 103, none, .fad (.t 8) 0⟩,
 ⟨some 104, none, .load (.t 103) 1 false⟩,
 ⟨some 105, none, .fad (.t 8) 6⟩,
 ⟨some 106, none, .load (.t 105) 1 false⟩,
 ⟨some 107, none, .call false 133 0 [.t 102, .t 104, .t 106]⟩,
 ⟨some 101, none, .mov (.t 107)⟩,
 ⟨some 108, none, .ext (.t 101) 0⟩,
 ⟨some 109, none, .ext (.t 101) 1⟩,
 ⟨some 9, none, .alloc [.s (.int .u64 0), .s (.int .i64 0), .s (.int .i64 0), .lit .nil [], .s (.int .i64 0), .lit .nil [], .s (.int .i64 0), .s (.int .i64 0), .lit .nil [], .lit .nil [], .s (.int .u64 0), .s (.int .u64 0), .s (.int .u64 0), .s (.int .u64 0), .s (.int .i64 0), .s (.int .i64 0), .s (.bool false), .s (.int .u64 0), .s (.int .u64 0), .s (.int .u64 0), .s (.int .u64 0), .s (.int .u64 0), .s (.int .u64 0), .s (.int .u64 0), .s (.int .u64 0), .s (.int .u64 0)]⟩,
 ⟨none, none, .store (.t 9) (.t 108) 26⟩,
 ⟨some 10, none, .mov (.t 109)⟩] [0, 9, 10]) (
 .seq (
 .reg [
 ⟨some 110, none, .mov (.t 10)⟩,
 ⟨some 111, none, .call false 128 0 [.t 110]⟩] [0, 9]) (
 .reg [
 ⟨some 112, none, .mov (.t 0)⟩,
 ⟨some 113, none, .load (.t 9) 26 true⟩,
 ⟨some 114, none, .call true 129 0 [.t 112, .t 113]⟩] []))))))) (
 .skip))))))))),
 [], none⟩

/-- (*bailey/kern.act).self -/
def F90 : FnIR := ⟨204,
 .seq (
 .reg [
 ⟨some 5, none, .mov (.t 0)⟩,
 ⟨some 6, none, .nck (.t 5)⟩,
 ⟨some 7, none, .fad (.t 6) 14⟩,
 ⟨some 8, none, .load (.t 7) 26 true⟩,
 ⟨some 9, none, .call false 124 0 [.t 8]⟩,
 ⟨some 2, none, .alloc [.s (.int .i64 0), .lit .nil [], .s (.int .i64 0), .lit .nil []]⟩,
 ⟨none, none, .store (.t 2) (.t 9) 4⟩,
 ⟨some 3, none, .mov (.k (.s (.int .i64 0)))⟩] [0, 2]) (
 .seq (
 .seq (
 .reg [
 ⟨some 10, none, .mov (.t 0)⟩,
 ⟨some 11, none, .nck (.t 10)⟩,
 ⟨some 12, none, .fad (.t 11) 0⟩,
 ⟨some 13, none, .fad (.t 12) 0⟩,
 ⟨some 14, none, .load (.t 13) 1 false⟩] [0, 2, 14]) (
 .block 0 (
 .seq (
 .reg [
 ⟨some 16, none, .bin .eql (.t 14) (.k (.s (.int .i64 11)))⟩,
 ⟨some 15, none, .mov (.t 16)⟩] [0, 2, 14, 15]) (
 .cond (.t 15) (
 .seq (
 .drw [
 ⟨some 17, none, .load (.t 2) 4 true⟩,
 ⟨some 18, none, .mov (.t 0)⟩,
 ⟨some 19, none, .nck (.t 18)⟩,
 ⟨some 20, none, .fad (.t 19) 0⟩,
 ⟨some 21, none, .fad (.t 20) 6⟩,
 ⟨some 22, none, .load (.t 21) 2 true⟩,
 ⟨some 23, none, .call false 134 0 [.t 17, .t 22]⟩,
 ⟨some 24, none, .call false 86 0 [.t 23, .k (.s (.int .i64 204))]⟩] [6, 7] [] [0]) (
 .reg [
 ⟨some 25, none, .mov (.t 0)⟩,
 ⟨some 26, none, .mov (.t 0)⟩,
 ⟨some 27, none, .nck (.t 26)⟩,
 ⟨some 28, none, .fad (.t 27) 0⟩,
 ⟨some 29, none, .fad (.t 28) 6⟩,
 ⟨some 30, none, .load (.t 29) 2 true⟩,
 ⟨some 31, none, .nck (.t 25)⟩,
 ⟨some 32, none, .fad (.t 31) 14⟩,
 ⟨some 33, none, .fad (.t 32) 2⟩,
 ⟨none, none, .store (.t 33) (.t 30) 2⟩] [0])) (
 .seq (
 .reg [
 ⟨some 35, none, .bin .eql (.t 14) (.k (.s (.int .i64 12)))⟩,
 ⟨some 34, none, .mov (.t 35)⟩] [0, 2, 14, 34]) (
 .cond (.t 34) (
 .seq (
 .drw [
 ⟨some 36, none, .load (.t 2) 4 true⟩,
 ⟨some 37, none, .mov (.t 0)⟩,
 ⟨some 38, none, .nck (.t 37)⟩,
 ⟨some 39, none, .fad (.t 38) 0⟩,
 ⟨some 40, none, .fad (.t 39) 8⟩,
 ⟨some 41, none, .load (.t 40) 2 true⟩,
 ⟨some 42, none, .call false 135 0 [.t 36, .t 41]⟩,
 ⟨some 43, none, .call false 86 0 [.t 42, .k (.s (.int .i64 204))]⟩] [6, 7] [] [0]) (
 .reg [
 ⟨some 44, none, .mov (.t 0)⟩,
 ⟨some 45, none, .mov (.t 0)⟩,
 ⟨some 46, none, .nck (.t 45)⟩,
 ⟨some 47, none, .fad (.t 46) 0⟩,
 ⟨some 48, none, .fad (.t 47) 8⟩,
 ⟨some 49, none, .load (.t 48) 2 true⟩,
 ⟨some 50, none, .nck (.t 44)⟩,
 ⟨some 51, none, .fad (.t 50) 14⟩,
 ⟨some 52, none, .fad (.t 51) 4⟩,
 ⟨none, none, .store (.t 52) (.t 49) 2⟩] [0])) (
 .seq (
 .reg [
 ⟨some 54, none, .bin .eql (.t 14) (.k (.s (.int .i64 13)))⟩,
 ⟨some 53, none, .mov (.t 54)⟩] [0, 14, 53]) (
 .cond (.t 53) (
 .seq (
 .reg [
 ⟨some 55, none, .mov (.t 0)⟩,
 ⟨some 56, none, .call true 130 0 [.t 55, .k (.s (.int .i64 3))]⟩,
 ⟨some 4, none, .alloc [.s (.int .u64 0), .s (.int .i64 0), .s (.int .i64 0), .lit .nil [], .s (.int .i64 0), .lit .nil [], .s (.int .i64 0), .s (.int .i64 0), .lit .nil [], .lit .nil [], .s (.int .u64 0), .s (.int .u64 0), .s (.int .u64 0), .s (.int .u64 0), .s (.int .i64 0), .s (.int .i64 0), .s (.bool false), .s (.int .u64 0), .s (.int .u64 0), .s (.int .u64 0), .s (.int .u64 0), .s (.int .u64 0), .s (.int .u64 0), .s (.int .u64 0), .s (.int .u64 0), .s (.int .u64 0)]⟩,
 ⟨none, none, .store (.t 4) (.t 56) 26⟩] [0, 4]) (
 .seq (
 .drw [
 ⟨some 58, none, .mov (.t 0)⟩,
 ⟨some 59, none, .mov (.t 0)⟩,
 ⟨some 60, none, .nck (.t 59)⟩,
 ⟨some 61, none, .fad (.t 60) 14⟩,
 ⟨some 62, none, .load (.t 61) 26 true⟩,
 ⟨some 63, none, .load (.t 4) 26 true⟩,
 ⟨some 64, none, .mov (.t 0)⟩,
 ⟨some 65, none, .nck (.t 64)⟩,
 ⟨some 66, none, .fad (.t 65) 0⟩,
 ⟨some 67, none, .fad (.t 66) 6⟩,
 ⟨some 68, none, .load (.t 67) 2 true⟩,
 ⟨some 69, none, .mov (.t 0)⟩,
 ⟨some 70, none, .nck (.t 69)⟩,
 ⟨some 71, none, .fad (.t 70) 0⟩,
 ⟨some 72, none, .fad (.t 71) 8⟩,
 ⟨some 73, none, .load (.t 72) 2 true⟩,
 ⟨some 74, none, .build [.s (.int .i64 0), .lit .nil [], .s (.int .i64 0), .lit .nil []] [(0, 2, .t 68), (2, 2, .t 73)]⟩,
 ⟨some 75, none, .call false 136 0 [.t 62, .t 63, .t 74]⟩,
 ⟨some 57, none, .mov (.t 75)⟩,
 ⟨some 76, none, .ext (.t 57) 0⟩,
 ⟨some 77, none, .ext (.t 57) 1⟩,
 ⟨some 78, none, .nck (.t 58)⟩,
 ⟨some 79, none, .fad (.t 78) 14⟩,
 ⟨none, none, .store (.t 79) (.t 76) 26⟩,
 ⟨some 3, none, .mov (.t 77)⟩] [17] [] [0, 3, 4]) (
 .seq (
 .reg [
 ⟨some 80, none, .mov (.t 3)⟩,
 ⟨some 81, none, .call false 128 0 [.t 80]⟩] [0, 4]) (
 .reg [
 ⟨some 82, none, .mov (.t 0)⟩,
 ⟨some 83, none, .fad (.t 4) 17⟩,
 ⟨some 84, none, .load (.t 83) 1 false⟩,
 ⟨some 85, none, .nck (.t 82)⟩,
 ⟨some 86, none, .fad (.t 85) 40⟩,
 ⟨some 87, none, .fad (.t 86) 1⟩,
 ⟨none, none, .store (.t 87) (.t 84) 1⟩] [0])))) (
 .seq (
 .reg [
 ⟨some 89, none, .bin .eql (.t 14) (.k (.s (.int .i64 14)))⟩,
 ⟨some 88, none, .mov (.t 89)⟩] [0, 14, 88]) (
 .cond (.t 88) (
 .seq (
 .drw [
 ⟨some 91, none, .mov (.t 0)⟩,
 ⟨some 92, none, .mov (.t 0)⟩,
 ⟨some 93, none, .mov (.t 0)⟩,
 ⟨some 94, none, .nck (.t 93)⟩,
 ⟨some 95, none, .fad (.t 94) 14⟩,
 ⟨some 96, none, .load (.t 95) 26 true⟩,
 ⟨some 97, none, .mov (.t 0)⟩,
 ⟨some 98, none, .nck (.t 97)⟩,
 ⟨some 99, none, .fad (.t 98) 13⟩,
 ⟨some 100, none, .load (.t 99) 1 false⟩,
 ⟨some 101, none, .call false 137 0 [.t 96, .t 100]⟩,
 ⟨some 90, none, .mov (.t 101)⟩,
 ⟨some 102, none, .ext (.t 90) 0⟩,
 ⟨some 103, none, .ext (.t 90) 1⟩,
 ⟨some 104, none, .ext (.t 90) 2⟩,
 ⟨some 105, none, .nck (.t 91)⟩,
 ⟨some 106, none, .fad (.t 105) 14⟩,
 ⟨none, none, .store (.t 106) (.t 102) 26⟩,
 ⟨some 107, none, .nck (.t 92)⟩,
 ⟨some 108, none, .fad (.t 107) 40⟩,
 ⟨some 109, none, .fad (.t 108) 1⟩,
 ⟨none, none, .store (.t 109) (.t 103) 1⟩,
 ⟨some 3, none, .mov (.t 104)⟩] [10] [] [0, 3]) (
 .reg [
 ⟨some 110, none, .mov (.t 3)⟩,
 ⟨some 111, none, .call false 128 0 [.t 110]⟩] [0])) (
 .seq (
 .reg [
 ⟨some 113, none, .bin .eql (.t 14) (.k (.s (.int .i64 15)))⟩,
 ⟨some 112, none, .mov (.t 113)⟩] [0, 14, 112]) (
 .cond (.t 112) (
 .seq (
 .reg [
 ⟨some 114, none, .mov (.t 0)⟩,
 ⟨some 115, none, .nck (.t 114)⟩,
 ⟨some 116, none, .fad (.t 115) 0⟩,
 ⟨some 117, none, .fad (.t 116) 1⟩,
 ⟨some 118, none, .load (.t 117) 1 false⟩,
 ⟨some 119, none, .bin .geq (.t 118) (.k (.s (.int .i64 0)))⟩,
 ⟨some 120, none, .mov (.t 119)⟩,
 ⟨some 121, some (120, true), .mov (.t 0)⟩,
 ⟨some 122, some (120, true), .nck (.t 121)⟩,
 ⟨some 123, some (120, true), .fad (.t 122) 0⟩,
 ⟨some 124, some (120, true), .fad (.t 123) 1⟩,
 ⟨some 125, some (120, true), .load (.t 124) 1 false⟩,
 ⟨some 126, some (120, true), .bin .lss (.t 125) (.k (.s (.int .i64 4)))⟩,
 ⟨some 127, none, .pick (.t 120) (.t 126) (.k (.s (.bool false)))⟩,
 ⟨some 128, none, .mov (.t 127)⟩,
 ⟨some 129, some (128, true), .mov (.t 0)⟩,
 ⟨some 130, some (128, true), .nck (.t 129)⟩,
 ⟨some 131, some (128, true), .fad (.t 130) 0⟩,
 ⟨some 132, some (128, true), .fad (.t 131) 2⟩,
 ⟨some 133, some (128, true), .load (.t 132) 1 false⟩,
 ⟨some 134, some (128, true), .bin .geq (.t 133) (.k (.s (.int .i64 1)))⟩,
 ⟨some 135, none, .pick (.t 128) (.t 134) (.k (.s (.bool false)))⟩,
 ⟨some 136, none, .mov (.t 135)⟩,
 ⟨some 137, some (136, true), .mov (.t 0)⟩,
 ⟨some 138, some (136, true), .nck (.t 137)⟩,
 ⟨some 139, some (136, true), .fad (.t 138) 0⟩,
 ⟨some 140, some (136, true), .fad (.t 139) 2⟩,
 ⟨some 141, some (136, true), .load (.t 140) 1 false⟩,
 ⟨some 142, some (136, true), .bin .leq (.t 141) (.k (.s (.int .i64 6)))⟩,
 ⟨some 143, none, .pick (.t 136) (.t 142) (.k (.s (.bool false)))⟩,
 ⟨some 144, none, .call false 86 0 [.t 143, .k (.s (.int .i64 205))]⟩] [0]) (
 .seq (
 .drw [
 ⟨some 145, none, .mov (.t 0)⟩,
 ⟨some 146, none, .mov (.t 0)⟩,
 ⟨some 147, none, .nck (.t 146)⟩,
 ⟨some 148, none, .fad (.t 147) 0⟩,
 ⟨some 149, none, .fad (.t 148) 1⟩,
 ⟨some 150, none, .load (.t 149) 1 false⟩,
 ⟨some 151, none, .mov (.t 0)⟩,
 ⟨some 152, none, .nck (.t 151)⟩,
 ⟨some 153, none, .fad (.t 152) 0⟩,
 ⟨some 154, none, .fad (.t 153) 2⟩,
 ⟨some 155, none, .load (.t 154) 1 false⟩,
 ⟨some 156, none, .mov (.t 0)⟩,
 ⟨some 157, none, .mov (.t 0)⟩,
 ⟨some 158, none, .nck (.t 157)⟩,
 ⟨some 159, none, .fad (.t 158) 0⟩,
 ⟨some 160, none, .fad (.t 159) 1⟩,
 ⟨some 161, none, .load (.t 160) 1 false⟩,
 ⟨some 162, none, .nck (.t 156)⟩,
 ⟨some 163, none, .fad (.t 162) 14⟩,
 ⟨some 164, none, .fad (.t 163) 10⟩,
 ⟨some 165, none, .ixa (.t 164) (.t 161) 1 (some 4)⟩,
 ⟨some 166, none, .load (.t 165) 1 false⟩,
 ⟨some 167, none, .mov (.t 0)⟩,
 ⟨some 168, none, .nck (.t 167)⟩,
 ⟨some 169, none, .fad (.t 168) 0⟩,
 ⟨some 170, none, .fad (.t 169) 11⟩,
 ⟨some 171, none, .load (.t 170) 1 false⟩,
 ⟨some 172, none, .call false 138 0 [.t 155, .t 166, .t 171]⟩,
 ⟨some 173, none, .nck (.t 145)⟩,
 ⟨some 174, none, .fad (.t 173) 14⟩,
 ⟨some 175, none, .fad (.t 174) 10⟩,
 ⟨some 176, none, .ixa (.t 175) (.t 150) 1 (some 4)⟩,
 ⟨none, none, .store (.t 176) (.t 172) 1⟩] [] [] [0]) (
 .drw [
 ⟨some 177, none, .mov (.t 0)⟩,
 ⟨some 178, none, .mov (.t 0)⟩,
 ⟨some 179, none, .mov (.t 0)⟩,
 ⟨some 180, none, .nck (.t 179)⟩,
 ⟨some 181, none, .fad (.t 180) 0⟩,
 ⟨some 182, none, .fad (.t 181) 1⟩,
 ⟨some 183, none, .load (.t 182) 1 false⟩,
 ⟨some 184, none, .nck (.t 178)⟩,
 ⟨some 185, none, .fad (.t 184) 14⟩,
 ⟨some 186, none, .fad (.t 185) 10⟩,
 ⟨some 187, none, .ixa (.t 186) (.t 183) 1 (some 4)⟩,
 ⟨some 188, none, .load (.t 187) 1 false⟩,
 ⟨some 189, none, .nck (.t 177)⟩,
 ⟨some 190, none, .fad (.t 189) 40⟩,
 ⟨some 191, none, .fad (.t 190) 1⟩,
 ⟨none, none, .store (.t 191) (.t 188) 1⟩] [] [] [0]))) (
 .seq (
 .reg [
 ⟨some 193, none, .bin .eql (.t 14) (.k (.s (.int .i64 22)))⟩,
 ⟨some 192, none, .mov (.t 193)⟩] [0, 192]) (
 .cond (.t 192) (
 .reg [
 ⟨some 194, none, .mov (.t 0)⟩,
 ⟨some 195, none, .nck (.t 194)⟩,
 ⟨some 196, none, .fad (.t 195) 14⟩,
 ⟨some 197, none, .fad (.t 196) 16⟩,
 ⟨none, none, .store (.t 197) (.k (.s (.bool true))) 1⟩] [0]) (
 .skip))))))))))))))) (
 .reg [
 ⟨some 198, none, .mov (.t 0)⟩,
 ⟨some 199, none, .mov (.t 0)⟩,
 ⟨some 200, none, .nck (.t 199)⟩,
 ⟨some 201, none, .fad (.t 200) 14⟩,
 ⟨some 202, none, .load (.t 201) 26 true⟩,
 ⟨some 203, none, .call true 129 0 [.t 198, .t 202]⟩] [])),
 [], none⟩

/-- (*bailey/kern.act).space -/
def F91 : FnIR := ⟨135,
 .seq (
 .reg [
 ⟨some 11, none, .mov (.t 0)⟩,
 ⟨some 12, none, .call true 130 0 [.t 11, .k (.s (.int .i64 5))]⟩,
 ⟨some 2, none, .alloc [.s (.int .u64 0), .s (.int .i64 0), .s (.int .i64 0), .lit .nil [], .s (.int .i64 0), .lit .nil [], .s (.int .i64 0), .s (.int .i64 0), .lit .nil [], .lit .nil [], .s (.int .u64 0), .s (.int .u64 0), .s (.int .u64 0), .s (.int .u64 0), .s (.int .i64 0), .s (.int .i64 0), .s (.bool false), .s (.int .u64 0), .s (.int .u64 0), .s (.int .u64 0), .s (.int .u64 0), .s (.int .u64 0), .s (.int .u64 0), .s (.int .u64 0), .s (.int .u64 0), .s (.int .u64 0)]⟩,
 ⟨none, none, .store (.t 2) (.t 12) 26⟩] [0, 2]) (
 .seq (
 .seq (
 .reg [
 ⟨some 13, none, .mov (.t 0)⟩,
 ⟨some 14, none, .nck (.t 13)⟩,
 ⟨some 15, none, .fad (.t 14) 0⟩,
 ⟨some 16, none, .fad (.t 15) 0⟩,
 ⟨some 17, none, .load (.t 16) 1 false⟩,
 ⟨some 18, none, .bin .eql (.t 17) (.k (.s (.int .i64 16)))⟩] [0, 2, 18]) (
 .cond (.t 18) (
 .seq (
 .reg [
 ⟨some 19, none, .mov (.t 0)⟩,
 ⟨some 20, none, .load (.t 2) 26 true⟩,
 ⟨some 21, none, .call true 123 0 [.t 19, .t 20]⟩] [0, 2]) (
 .seq (
 .drw [
 ⟨some 23, none, .load (.t 2) 26 true⟩,
 ⟨some 24, none, .mov (.t 0)⟩,
 ⟨some 25, none, .nck (.t 24)⟩,
 ⟨some 26, none, .fad (.t 25) 0⟩,
 ⟨some 27, none, .fad (.t 26) 1⟩,
 ⟨some 28, none, .load (.t 27) 1 false⟩,
 ⟨some 29, none, .mov (.t 0)⟩,
 ⟨some 30, none, .nck (.t 29)⟩,
 ⟨some 31, none, .fad (.t 30) 0⟩,
 ⟨some 32, none, .fad (.t 31) 5⟩,
 ⟨some 33, none, .load (.t 32) 1 false⟩,
 ⟨some 34, none, .mov (.t 0)⟩,
 ⟨some 35, none, .nck (.t 34)⟩,
 ⟨some 36, none, .fad (.t 35) 0⟩,
 ⟨some 37, none, .fad (.t 36) 11⟩,
 ⟨some 38, none, .load (.t 37) 1 false⟩,
 ⟨some 39, none, .build [.s (.int .u64 0), .s (.int .u64 0)] [(0, 1, .t 33), (1, 1, .t 38)]⟩,
 ⟨some 40, none, .call false 139 0 [.t 23, .t 28, .t 39]⟩,
 ⟨some 22, none, .mov (.t 40)⟩,
 ⟨some 41, none, .ext (.t 22) 0⟩,
 ⟨some 42, none, .ext (.t 22) 1⟩,
 ⟨some 3, none, .alloc [.s (.int .u64 0), .s (.int .i64 0), .s (.int .i64 0), .lit .nil [], .s (.int .i64 0), .lit .nil [], .s (.int .i64 0), .s (.int .i64 0), .lit .nil [], .lit .nil [], .s (.int .u64 0), .s (.int .u64 0), .s (.int .u64 0), .s (.int .u64 0), .s (.int .i64 0), .s (.int .i64 0), .s (.bool false), .s (.int .u64 0), .s (.int .u64 0), .s (.int .u64 0), .s (.int .u64 0), .s (.int .u64 0), .s (.int .u64 0), .s (.int .u64 0), .s (.int .u64 0), .s (.int .u64 0)]⟩,
 ⟨none, none, .store (.t 3) (.t 41) 26⟩,
 ⟨some 4, none, .mov (.t 42)⟩] [] [] [0, 3, 4]) (
 .seq (
 .reg [
 ⟨some 43, none, .mov (.t 4)⟩,
 ⟨some 44, none, .call false 128 0 [.t 43]⟩] [0, 3]) (
 .seq (
 .reg [
 ⟨some 45, none, .mov (.t 0)⟩,
 ⟨some 46, none, .load (.t 3) 26 true⟩,
 ⟨some 47, none, .call true 129 0 [.t 45, .t 46]⟩] []) (
 .ret))))) (
 .skip))) (
 .seq (
 .reg [
 ⟨some 48, none, .mov (.t 0)⟩,
 ⟨some 49, none, .load (.t 2) 26 true⟩,
 ⟨some 50, none, .call true 131 0 [.t 48, .t 49]⟩] [0, 2]) (
 .seq (
 .drw [
 ⟨some 52, none, .load (.t 2) 26 true⟩,
 ⟨some 53, none, .mov (.t 0)⟩,
 ⟨some 54, none, .nck (.t 53)⟩,
 ⟨some 55, none, .fad (.t 54) 0⟩,
 ⟨some 56, none, .fad (.t 55) 1⟩,
 ⟨some 57, none, .load (.t 56) 1 false⟩,
 ⟨some 58, none, .call false 140 0 [.t 52, .t 57]⟩,
 ⟨some 51, none, .mov (.t 58)⟩,
 ⟨some 59, none, .ext (.t 51) 0⟩,
 ⟨some 60, none, .ext (.t 51) 1⟩,
 ⟨some 61, none, .ext (.t 51) 2⟩,
 ⟨some 5, none, .alloc [.s (.int .u64 0), .s (.int .u64 0)]⟩,
 ⟨none, none, .store (.t 5) (.t 59) 2⟩,
 ⟨some 6, none, .mov (.t 60)⟩,
 ⟨some 7, none, .mov (.t 61)⟩] [] [] [0, 5, 6, 7]) (
 .seq (
 .reg [
 ⟨some 62, none, .mov (.t 7)⟩,
 ⟨some 63, none, .call false 128 0 [.t 62]⟩] [0, 5, 6]) (
 .seq (
 .reg [
 ⟨some 64, none, .mov (.t 0)⟩,
 ⟨some 65, none, .nck (.t 64)⟩,
 ⟨some 66, none, .load (.t 65) 45 true⟩,
 ⟨some 8, none, .alloc [.s (.int .i64 0), .s (.int .i64 0), .s (.int .i64 0), .s (.int .u64 0), .s (.int .u64 0), .s (.int .u64 0), .s (.int .i64 0), .lit .nil [], .s (.int .i64 0), .lit .nil [], .lit .nil [], .s (.int .u64 0), .lit .nil [], .s (.int .i64 0), .s (.int .u64 0), .s (.int .i64 0), .s (.int .i64 0), .lit .nil [], .s (.int .i64 0), .lit .nil [], .s (.int .i64 0), .s (.int .i64 0), .lit .nil [], .lit .nil [], .s (.int .u64 0), .s (.int .u64 0), .s (.int .u64 0), .s (.int .u64 0), .s (.int .i64 0), .s (.int .i64 0), .s (.bool false), .s (.int .u64 0), .s (.int .u64 0), .s (.int .u64 0), .s (.int .u64 0), .s (.int .u64 0), .s (.int .u64 0), .s (.int .u64 0), .s (.int .u64 0), .s (.int .u64 0), .s (.int .i64 0), .s (.int .u64 0), .lit .nil [], .lit .nil [], .s (.int .i64 0)]⟩,
 ⟨none, none, .store (.t 8) (.t 66) 45⟩] [0, 5, 6, 8]) (
 .seq (
 .drw [
 ⟨some 67, none, .fad (.t 5) 0⟩,
 ⟨some 68, none, .load (.t 67) 1 false⟩,
 ⟨some 69, none, .fad (.t 5) 1⟩,
 ⟨some 70, none, .load (.t 69) 1 false⟩,
 ⟨some 71, none, .mov (.t 6)⟩,
 ⟨some 72, none, .fad (.t 8) 0⟩,
 ⟨some 73, none, .fad (.t 72) 3⟩,
 ⟨none, none, .store (.t 73) (.t 68) 1⟩,
 ⟨some 74, none, .fad (.t 8) 0⟩,
 ⟨some 75, none, .fad (.t 74) 4⟩,
 ⟨none, none, .store (.t 75) (.t 70) 1⟩,
 ⟨some 76, none, .fad (.t 8) 0⟩,
 ⟨some 77, none, .fad (.t 76) 1⟩,
 ⟨none, none, .store (.t 77) (.t 71) 1⟩,
 ⟨some 78, none, .fad (.t 8) 0⟩,
 ⟨some 79, none, .fad (.t 78) 2⟩,
 ⟨none, none, .store (.t 79) (.k (.s (.int .i64 8))) 1⟩] [] [(3, 7)] [0, 8]) (
 .seq (
 .reg [
 ⟨some 80, none, .fad (.t 8) 0⟩,
 ⟨some 81, none, .fad (.t 80) 0⟩,
 ⟨none, none, .store (.t 81) (.k (.s (.int .i64 6))) 1⟩] [0, 8]) (
 .seq (
 .seq (
 .reg [
 ⟨some 82, none, .mov (.t 0)⟩,
 ⟨some 83, none, .nck (.t 82)⟩,
 ⟨some 84, none, .fad (.t 83) 0⟩,
 ⟨some 85, none, .fad (.t 84) 0⟩,
 ⟨some 86, none, .load (.t 85) 1 false⟩,
 ⟨some 87, none, .bin .eql (.t 86) (.k (.s (.int .i64 18)))⟩] [0, 8, 87]) (
 .cond (.t 87) (
 .seq (
 .reg [
 ⟨some 88, none, .fad (.t 8) 0⟩,
 ⟨some 89, none, .fad (.t 88) 0⟩,
 ⟨none, none, .store (.t 89) (.k (.s (.int .i64 7))) 1⟩] [0, 8]) (
 .reg [
 ⟨some 91, none, .mov (.t 0)⟩,
 ⟨some 92, none, .nck (.t 91)⟩,
 ⟨some 93, none, .fad (.t 92) 0⟩,
 ⟨some 94, none, .fad (.t 93) 11⟩,
 ⟨some 95, none, .load (.t 94) 1 false⟩,
 ⟨some 96, none, .build [.s (.int .u64 0), .lit .nil []] [(0, 1, .t 95)]⟩,
 ⟨some 97, none, .bsl false 2 true [.s (.int .u64 0), .lit .nil []] 1 [(0, .t 96)]⟩,
 ⟨some 98, none, .call false 141 0 [.k (.s (.string ⟨#[56]⟩)), .t 97]⟩,
 ⟨some 90, none, .mov (.t 98)⟩,
 ⟨some 99, none, .ext (.t 90) 0⟩,
 ⟨some 100, none, .ext (.t 90) 1⟩,
 ⟨some 101, none, .fad (.t 8) 0⟩,
 ⟨some 102, none, .fad (.t 101) 10⟩,
 ⟨none, none, .store (.t 102) (.t 99) 1⟩] [0, 8])) (
 .skip))) (
 .seq (
 .reg [
 ⟨some 103, none, .call true 88 0 [.t 8]⟩] [0, 8]) (
 .seq (
 .reg [
 ⟨some 104, none, .mov (.t 0)⟩,
 ⟨some 105, none, .mov (.t 0)⟩,
 ⟨some 106, none, .fad (.t 8) 12⟩,
 ⟨some 107, none, .load (.t 106) 1 false⟩,
 ⟨some 108, none, .fad (.t 8) 40⟩,
 ⟨some 109, none, .load (.t 108) 5 true⟩,
 ⟨some 110, none, .nck (.t 104)⟩,
 ⟨some 111, none, .fad (.t 110) 12⟩,
 ⟨none, none, .store (.t 111) (.t 107) 1⟩,
 ⟨some 112, none, .nck (.t 105)⟩,
 ⟨some 113, none, .fad (.t 112) 40⟩,
 ⟨none, none, .store (.t 113) (.t 109) 5⟩] [0, 8]) (
 .seq (
 .reg [
 ⟨some 114, none, .mov (.t 0)⟩,
 ⟨some 115, none, .nck (.t 114)⟩,
 ⟨some 116, none, .fad (.t 115) 0⟩,
 ⟨some 117, none, .fad (.t 116) 0⟩,
 ⟨some 118, none, .load (.t 117) 1 false⟩,
 ⟨some 119, none, .bin .eql (.t 118) (.k (.s (.int .i64 17)))⟩] [0, 8, 119]) (
 .cond (.t 119) (
 .seq (
 .reg [
 ⟨some 121, none, .fad (.t 8) 40⟩,
 ⟨some 122, none, .fad (.t 121) 2⟩,
 ⟨some 123, none, .load (.t 122) 1 false⟩,
 ⟨some 124, none, .call false 142 0 [.k (.s (.string ⟨#[56]⟩)), .t 123]⟩,
 ⟨some 120, none, .mov (.t 124)⟩,
 ⟨some 125, none, .ext (.t 120) 0⟩,
 ⟨some 126, none, .ext (.t 120) 1⟩,
 ⟨some 9, none, .mov (.t 125)⟩,
 ⟨some 10, none, .mov (.t 126)⟩] [0, 9]) (
 .reg [
 ⟨some 127, none, .mov (.t 0)⟩,
 ⟨some 128, none, .mov (.t 9)⟩,
 ⟨some 129, none, .ixa (.t 128) (.k (.s (.int .i64 0))) 2 none⟩,
 ⟨some 130, none, .fad (.t 129) 0⟩,
 ⟨some 131, none, .load (.t 130) 1 false⟩,
 ⟨some 132, none, .build [.s (.int .i64 0), .s (.int .u64 0), .lit .nil [], .lit .nil [], .s (.int .i64 0)] [(1, 1, .t 131)]⟩,
 ⟨some 133, none, .nck (.t 127)⟩,
 ⟨some 134, none, .fad (.t 133) 40⟩,
 ⟨none, none, .store (.t 134) (.t 132) 5⟩] [])) (
 .skip))))))))))))),
 [], none⟩

/-- (*bailey/kern.act).held -/
def F92 : FnIR := ⟨16,
 .seq (
 .reg [
 ⟨some 6, none, .alloc [.s (.int .u64 0), .s (.int .i64 0), .s (.int .i64 0), .lit .nil [], .s (.int .i64 0), .lit .nil [], .s (.int .i64 0), .s (.int .i64 0), .lit .nil [], .lit .nil [], .s (.int .u64 0), .s (.int .u64 0), .s (.int .u64 0), .s (.int .u64 0), .s (.int .i64 0), .s (.int .i64 0), .s (.bool false), .s (.int .u64 0), .s (.int .u64 0), .s (.int .u64 0), .s (.int .u64 0), .s (.int .u64 0), .s (.int .u64 0), .s (.int .u64 0), .s (.int .u64 0), .s (.int .u64 0)]⟩] [0, 1, 2, 6]) (
 .seq (
 .reg [
 ⟨some 7, none, .mov (.t 0)⟩,
 ⟨some 8, none, .mov (.t 1)⟩,
 ⟨some 9, none, .call true 122 0 [.t 7, .t 8]⟩,
 ⟨some 10, none, .mov (.t 2)⟩,
 ⟨some 11, none, .call false 72 0 [.t 9, .t 10]⟩,
 ⟨some 12, none, .call false 86 0 [.t 11, .k (.s (.int .i64 202))]⟩] [0, 2, 6]) (
 .seq (
 .reg [
 ⟨some 13, none, .mov (.t 0)⟩,
 ⟨some 14, none, .mov (.t 2)⟩,
 ⟨some 15, none, .call true 143 0 [.t 13, .t 14]⟩,
 ⟨none, none, .store (.t 6) (.t 15) 26⟩] [6]) (
 .ret))),
 [.c 6 26 true], none⟩

/-- (*bailey/kern.act).keep -/
def F93 : FnIR := ⟨48,
 .seq (
 .reg [
 ⟨some 4, none, .mov (.t 0)⟩,
 ⟨some 5, none, .call true 143 0 [.t 4, .k (.s (.int .u64 65))]⟩,
 ⟨some 2, none, .alloc [.s (.int .u64 0), .s (.int .i64 0), .s (.int .i64 0), .lit .nil [], .s (.int .i64 0), .lit .nil [], .s (.int .i64 0), .s (.int .i64 0), .lit .nil [], .lit .nil [], .s (.int .u64 0), .s (.int .u64 0), .s (.int .u64 0), .s (.int .u64 0), .s (.int .i64 0), .s (.int .i64 0), .s (.bool false), .s (.int .u64 0), .s (.int .u64 0), .s (.int .u64 0), .s (.int .u64 0), .s (.int .u64 0), .s (.int .u64 0), .s (.int .u64 0), .s (.int .u64 0), .s (.int .u64 0)]⟩,
 ⟨none, none, .store (.t 2) (.t 5) 26⟩] [0, 2]) (
 .seq (
 .reg [
 ⟨some 6, none, .fad (.t 2) 1⟩,
 ⟨some 7, none, .load (.t 6) 1 false⟩,
 ⟨some 8, none, .bin .neq (.t 7) (.k (.s (.int .i64 0)))⟩,
 ⟨some 9, none, .call false 86 0 [.t 8, .k (.s (.int .i64 204))]⟩] [0, 2]) (
 .seq (
 .reg [
 ⟨some 10, none, .mov (.t 0)⟩,
 ⟨some 11, none, .load (.t 2) 26 true⟩,
 ⟨some 12, none, .call true 123 0 [.t 10, .t 11]⟩] [0]) (
 .seq (
 .seq (
 .reg [
 ⟨some 13, none, .mov (.t 0)⟩,
 ⟨some 14, none, .nck (.t 13)⟩,
 ⟨some 15, none, .fad (.t 14) 0⟩,
 ⟨some 16, none, .fad (.t 15) 0⟩,
 ⟨some 17, none, .load (.t 16) 1 false⟩,
 ⟨some 18, none, .bin .eql (.t 17) (.k (.s (.int .i64 21)))⟩] [0, 18]) (
 .cond (.t 18) (
 .seq (
 .reg [
 ⟨some 19, none, .mov (.t 0)⟩,
 ⟨some 20, none, .nck (.t 19)⟩,
 ⟨some 21, none, .fad (.t 20) 40⟩,
 ⟨some 22, none, .fad (.t 21) 4⟩,
 ⟨none, none, .store (.t 22) (.k (.s (.int .i64 2))) 1⟩] []) (
 .ret)) (
 .skip))) (
 .seq (
 .drw [
 ⟨some 23, none, .mov (.t 0)⟩,
 ⟨some 24, none, .mov (.t 0)⟩,
 ⟨some 25, none, .nck (.t 24)⟩,
 ⟨some 26, none, .fad (.t 25) 0⟩,
 ⟨some 27, none, .fad (.t 26) 3⟩,
 ⟨some 28, none, .load (.t 27) 1 false⟩,
 ⟨some 29, none, .mov (.t 0)⟩,
 ⟨some 30, none, .nck (.t 29)⟩,
 ⟨some 31, none, .fad (.t 30) 0⟩,
 ⟨some 32, none, .fad (.t 31) 4⟩,
 ⟨some 33, none, .load (.t 32) 1 false⟩,
 ⟨some 34, none, .call true 92 0 [.t 23, .t 28, .t 33]⟩,
 ⟨some 3, none, .alloc [.s (.int .u64 0), .s (.int .i64 0), .s (.int .i64 0), .lit .nil [], .s (.int .i64 0), .lit .nil [], .s (.int .i64 0), .s (.int .i64 0), .lit .nil [], .lit .nil [], .s (.int .u64 0), .s (.int .u64 0), .s (.int .u64 0), .s (.int .u64 0), .s (.int .i64 0), .s (.int .i64 0), .s (.bool false), .s (.int .u64 0), .s (.int .u64 0), .s (.int .u64 0), .s (.int .u64 0), .s (.int .u64 0), .s (.int .u64 0), .s (.int .u64 0), .s (.int .u64 0), .s (.int .u64 0)]⟩,
 ⟨none, none, .store (.t 3) (.t 34) 26⟩] [] [] [0, 3]) (
 .seq (
 .reg [
 ⟨some 35, none, .mov (.t 0)⟩,
 ⟨some 36, none, .load (.t 3) 26 true⟩,
 ⟨some 37, none, .call true 131 0 [.t 35, .t 36]⟩] [0, 3]) (
 .drw [
 ⟨some 38, none, .mov (.t 0)⟩,
 ⟨some 39, none, .mov (.t 0)⟩,
 ⟨some 40, none, .fad (.t 3) 0⟩,
 ⟨some 41, none, .load (.t 40) 1 false⟩,
 ⟨some 42, none, .nck (.t 38)⟩,
 ⟨some 43, none, .fad (.t 42) 40⟩,
 ⟨some 44, none, .fad (.t 43) 4⟩,
 ⟨none, none, .store (.t 44) (.k (.s (.int .i64 1))) 1⟩,
 ⟨some 45, none, .nck (.t 39)⟩,
 ⟨some 46, none, .fad (.t 45) 40⟩,
 ⟨some 47, none, .fad (.t 46) 1⟩,
 ⟨none, none, .store (.t 47) (.t 41) 1⟩] [] [(3, 7)] [])))))),
 [], none⟩

/-- bailey/baileyref20.born -/
def F94 : FnIR := ⟨154,
 .seq (
 .reg [
 ⟨some 6, none, .bxl (.t 2)⟩,
 ⟨some 7, none, .bxl (.t 3)⟩,
 ⟨some 8, none, .mov (.k (.lit .nil []))⟩,
 ⟨some 9, none, .alloc [.s (.int .i64 0), .s (.int .u64 0), .lit .nil [], .lit .nil [], .s (.int .i64 0)]⟩,
 ⟨some 10, none, .mov (.k (.s (.int .i64 0)))⟩] [0, 1, 6, 7, 9]) (
 .seq (
 .reg [
 ⟨some 19, none, .mov (.t 0)⟩,
 ⟨some 20, none, .load (.t 6) 26 true⟩,
 ⟨some 21, none, .fad (.t 7) 3⟩,
 ⟨some 22, none, .load (.t 21) 1 false⟩,
 ⟨some 23, none, .call false 144 0 [.t 19, .t 20, .t 22]⟩,
 ⟨some 18, none, .mov (.t 23)⟩,
 ⟨some 24, none, .ext (.t 18) 0⟩,
 ⟨some 25, none, .ext (.t 18) 1⟩,
 ⟨some 11, none, .alloc [.s (.int .u64 0), .s (.int .i64 0), .s (.int .i64 0), .lit .nil [], .s (.int .i64 0), .lit .nil [], .s (.int .i64 0), .s (.int .i64 0), .lit .nil [], .lit .nil [], .s (.int .u64 0), .s (.int .u64 0), .s (.int .u64 0), .s (.int .u64 0), .s (.int .i64 0), .s (.int .i64 0), .s (.bool false), .s (.int .u64 0), .s (.int .u64 0), .s (.int .u64 0), .s (.int .u64 0), .s (.int .u64 0), .s (.int .u64 0), .s (.int .u64 0), .s (.int .u64 0), .s (.int .u64 0)]⟩,
 ⟨none, none, .store (.t 11) (.t 24) 26⟩,
 ⟨some 12, none, .mov (.t 25)⟩] [0, 1, 6, 7, 9, 11, 12]) (
 .seq (
 .seq (
 .reg [
 ⟨some 26, none, .mov (.t 12)⟩,
 ⟨some 27, none, .bin .neq (.t 26) (.k (.s (.int .i64 0)))⟩] [0, 1, 6, 7, 9, 11, 12, 27]) (
 .cond (.t 27) (
 .seq (
 .reg [
 ⟨some 28, none, .mov (.t 0)⟩,
 ⟨some 29, none, .build [.s (.int .i64 0), .s (.int .u64 0), .lit .nil [], .lit .nil [], .s (.int .i64 0)] []⟩,
 ⟨some 30, none, .mov (.t 12)⟩,
 ⟨some 8, none, .mov (.t 28)⟩,
 ⟨none, none, .store (.t 9) (.t 29) 5⟩,
 ⟨some 10, none, .mov (.t 30)⟩] [8, 9, 10]) (
 .ret)) (
 .skip))) (
 .seq (
 .seq (
 .reg [
 ⟨some 31, none, .fad (.t 6) 2⟩,
 ⟨some 32, none, .load (.t 31) 2 true⟩,
 ⟨some 33, none, .fad (.t 11) 2⟩,
 ⟨some 34, none, .load (.t 33) 2 true⟩,
 ⟨some 35, none, .call false 145 0 [.t 32, .t 34]⟩,
 ⟨some 36, none, .un .not (.t 35)⟩] [0, 1, 6, 7, 9, 11, 36]) (
 .cond (.t 36) (
 .seq (
 .reg [
 ⟨some 37, none, .mov (.t 0)⟩,
 ⟨some 38, none, .build [.s (.int .i64 0), .s (.int .u64 0), .lit .nil [], .lit .nil [], .s (.int .i64 0)] []⟩,
 ⟨some 8, none, .mov (.t 37)⟩,
 ⟨none, none, .store (.t 9) (.t 38) 5⟩,
 ⟨some 10, none, .mov (.k (.s (.int .i64 204)))⟩] [8, 9, 10]) (
 .ret)) (
 .skip))) (
 .seq (
 .reg [
 ⟨some 39, none, .fad (.t 7) 6⟩,
 ⟨some 40, none, .load (.t 39) 2 true⟩,
 ⟨some 41, none, .build [.s (.int .u64 0), .s (.int .i64 0), .s (.int .i64 0), .lit .nil [], .s (.int .i64 0), .lit .nil [], .s (.int .i64 0), .s (.int .i64 0), .lit .nil [], .lit .nil [], .s (.int .u64 0), .s (.int .u64 0), .s (.int .u64 0), .s (.int .u64 0), .s (.int .i64 0), .s (.int .i64 0), .s (.bool false), .s (.int .u64 0), .s (.int .u64 0), .s (.int .u64 0), .s (.int .u64 0), .s (.int .u64 0), .s (.int .u64 0), .s (.int .u64 0), .s (.int .u64 0), .s (.int .u64 0)] [(2, 2, .t 40), (6, 1, .k (.s (.int .i64 1)))]⟩,
 ⟨some 13, none, .alloc [.s (.int .u64 0), .s (.int .i64 0), .s (.int .i64 0), .lit .nil [], .s (.int .i64 0), .lit .nil [], .s (.int .i64 0), .s (.int .i64 0), .lit .nil [], .lit .nil [], .s (.int .u64 0), .s (.int .u64 0), .s (.int .u64 0), .s (.int .u64 0), .s (.int .i64 0), .s (.int .i64 0), .s (.bool false), .s (.int .u64 0), .s (.int .u64 0), .s (.int .u64 0), .s (.int .u64 0), .s (.int .u64 0), .s (.int .u64 0), .s (.int .u64 0), .s (.int .u64 0), .s (.int .u64 0)]⟩,
 ⟨none, none, .store (.t 13) (.t 41) 26⟩] [0, 1, 6, 7, 9, 11, 13]) (
 .seq (
 .reg [
 ⟨some 42, none, .fad (.t 6) 2⟩,
 ⟨some 43, none, .load (.t 42) 2 true⟩,
 ⟨some 44, none, .fad (.t 6) 4⟩,
 ⟨some 45, none, .load (.t 44) 2 true⟩,
 ⟨some 46, none, .fad (.t 7) 6⟩,
 ⟨some 47, none, .load (.t 46) 2 true⟩,
 ⟨some 48, none, .call false 146 0 [.t 43, .t 45, .t 47]⟩,
 ⟨some 14, none, .mov (.t 48)⟩] [0, 1, 6, 7, 9, 11, 13, 14]) (
 .seq (
 .seq (
 .reg [
 ⟨some 49, none, .fad (.t 7) 0⟩,
 ⟨some 50, none, .load (.t 49) 1 false⟩] [0, 1, 6, 7, 9, 11, 13, 14, 50]) (
 .block 0 (
 .seq (
 .reg [
 ⟨some 52, none, .bin .eql (.t 50) (.k (.s (.int .i64 1)))⟩,
 ⟨some 51, none, .mov (.t 52)⟩] [0, 1, 6, 7, 9, 11, 13, 14, 50, 51]) (
 .cond (.t 51) (
 .seq (
 .reg [
 ⟨some 53, none, .fad (.t 13) 1⟩,
 ⟨none, none, .store (.t 53) (.k (.s (.int .i64 1))) 1⟩] [0, 7, 9, 11, 13, 14]) (
 .seq (
 .reg [
 ⟨some 54, none, .fad (.t 7) 1⟩,
 ⟨some 55, none, .load (.t 54) 1 false⟩,
 ⟨some 56, none, .fad (.t 13) 6⟩,
 ⟨none, none, .store (.t 56) (.t 55) 1⟩] [0, 7, 9, 11, 13, 14]) (
 .seq (
 .reg [
 ⟨some 57, none, .fad (.t 7) 1⟩,
 ⟨some 58, none, .load (.t 57) 1 false⟩,
 ⟨some 59, none, .bin .lss (.t 58) (.k (.s (.int .i64 1)))⟩,
 ⟨some 60, none, .mov (.t 59)⟩,
 ⟨some 61, some (60, false), .fad (.t 7) 1⟩,
 ⟨some 62, some (60, false), .load (.t 61) 1 false⟩,
 ⟨some 63, some (60, false), .bin .gtr (.t 62) (.k (.s (.int .i64 48)))⟩,
 ⟨some 64, none, .pick (.t 60) (.k (.s (.bool true))) (.t 63)⟩] [0, 9, 11, 13, 14, 64]) (
 .cond (.t 64) (
 .seq (
 .reg [
 ⟨some 65, none, .mov (.t 0)⟩,
 ⟨some 66, none, .build [.s (.int .i64 0), .s (.int .u64 0), .lit .nil [], .lit .nil [], .s (.int .i64 0)] []⟩,
 ⟨some 8, none, .mov (.t 65)⟩,
 ⟨none, none, .store (.t 9) (.t 66) 5⟩,
 ⟨some 10, none, .mov (.k (.s (.int .i64 205)))⟩] [8, 9, 10]) (
 .ret)) (
 .skip))))) (
 .seq (
 .reg [
 ⟨some 68, none, .bin .eql (.t 50) (.k (.s (.int .i64 2)))⟩,
 ⟨some 67, none, .mov (.t 68)⟩] [0, 1, 6, 7, 9, 11, 13, 14, 50, 67]) (
 .cond (.t 67) (
 .seq (
 .reg [
 ⟨some 69, none, .fad (.t 13) 1⟩,
 ⟨none, none, .store (.t 69) (.k (.s (.int .i64 4))) 1⟩] [0, 7, 9, 11, 13, 14]) (
 .seq (
 .seq (
 .reg [
 ⟨some 70, none, .fad (.t 7) 1⟩,
 ⟨some 71, none, .load (.t 70) 1 false⟩,
 ⟨some 72, none, .bin .lss (.t 71) (.k (.s (.int .i64 1)))⟩,
 ⟨some 73, none, .mov (.t 72)⟩,
 ⟨some 74, some (73, false), .fad (.t 7) 1⟩,
 ⟨some 75, some (73, false), .load (.t 74) 1 false⟩,
 ⟨some 76, some (73, false), .bin .gtr (.t 75) (.k (.s (.int .i64 4)))⟩,
 ⟨some 77, none, .pick (.t 73) (.k (.s (.bool true))) (.t 76)⟩] [0, 7, 9, 11, 13, 14, 77]) (
 .cond (.t 77) (
 .seq (
 .reg [
 ⟨some 78, none, .mov (.t 0)⟩,
 ⟨some 79, none, .build [.s (.int .i64 0), .s (.int .u64 0), .lit .nil [], .lit .nil [], .s (.int .i64 0)] []⟩,
 ⟨some 8, none, .mov (.t 78)⟩,
 ⟨none, none, .store (.t 9) (.t 79) 5⟩,
 ⟨some 10, none, .mov (.k (.s (.int .i64 205)))⟩] [8, 9, 10]) (
 .ret)) (
 .skip))) (
 .seq (
 .reg [
 ⟨some 80, none, .fad (.t 7) 1⟩,
 ⟨some 81, none, .load (.t 80) 1 false⟩,
 ⟨some 82, none, .bin .add (.t 81) (.k (.s (.int .i64 1)))⟩,
 ⟨some 83, none, .fad (.t 13) 6⟩,
 ⟨none, none, .store (.t 83) (.t 82) 1⟩] [0, 7, 9, 11, 13, 14]) (
 .reg [
 ⟨some 84, none, .fad (.t 7) 1⟩,
 ⟨some 85, none, .load (.t 84) 1 false⟩,
 ⟨some 86, none, .bin .mul (.k (.s (.int .i64 32))) (.t 85)⟩,
 ⟨some 87, none, .msl false (.t 86) (.t 86) 1 1 false [.s (.int .u8 0)]⟩,
 ⟨some 88, none, .fad (.t 13) 9⟩,
 ⟨none, none, .store (.t 88) (.t 87) 1⟩] [0, 9, 11, 13, 14])))) (
 .seq (
 .reg [
 ⟨some 90, none, .bin .eql (.t 50) (.k (.s (.int .i64 3)))⟩,
 ⟨some 89, none, .mov (.t 90)⟩] [0, 1, 6, 7, 9, 11, 13, 14, 50, 89]) (
 .cond (.t 89) (
 .seq (
 .reg [
 ⟨some 91, none, .fad (.t 13) 1⟩,
 ⟨none, none, .store (.t 91) (.k (.s (.int .i64 2))) 1⟩] [0, 1, 6, 7, 9, 11, 13]) (
 .seq (
 .reg [
 ⟨some 92, none, .fad (.t 7) 8⟩,
 ⟨some 93, none, .load (.t 92) 2 true⟩,
 ⟨some 94, none, .fad (.t 13) 4⟩,
 ⟨none, none, .store (.t 94) (.t 93) 2⟩] [0, 1, 6, 7, 9, 11, 13]) (
 .seq (
 .reg [
 ⟨some 95, none, .mov (.t 1)⟩,
 ⟨some 96, none, .fad (.t 13) 15⟩,
 ⟨none, none, .store (.t 96) (.t 95) 1⟩] [0, 6, 7, 9, 11, 13]) (
 .reg [
 ⟨some 97, none, .fad (.t 6) 2⟩,
 ⟨some 98, none, .load (.t 97) 2 true⟩,
 ⟨some 99, none, .fad (.t 6) 4⟩,
 ⟨some 100, none, .load (.t 99) 2 true⟩,
 ⟨some 101, none, .fad (.t 7) 6⟩,
 ⟨some 102, none, .load (.t 101) 2 true⟩,
 ⟨some 103, none, .fad (.t 7) 8⟩,
 ⟨some 104, none, .load (.t 103) 2 true⟩,
 ⟨some 105, none, .call false 147 0 [.t 98, .t 100, .t 102, .t 104]⟩,
 ⟨some 14, none, .mov (.t 105)⟩] [0, 9, 11, 13, 14])))) (
 .seq (
 .reg [
 ⟨some 107, none, .bin .eql (.t 50) (.k (.s (.int .i64 4)))⟩,
 ⟨some 106, none, .mov (.t 107)⟩] [0, 6, 7, 9, 11, 13, 14, 50, 106]) (
 .cond (.t 106) (
 .seq (
 .reg [
 ⟨some 108, none, .fad (.t 13) 1⟩,
 ⟨none, none, .store (.t 108) (.k (.s (.int .i64 3))) 1⟩] [0, 6, 7, 9, 11, 13]) (
 .seq (
 .reg [
 ⟨some 109, none, .fad (.t 7) 8⟩,
 ⟨some 110, none, .load (.t 109) 2 true⟩,
 ⟨some 111, none, .fad (.t 13) 4⟩,
 ⟨none, none, .store (.t 111) (.t 110) 2⟩] [0, 6, 7, 9, 11, 13]) (
 .seq (
 .reg [
 ⟨some 112, none, .fad (.t 7) 11⟩,
 ⟨some 113, none, .load (.t 112) 1 false⟩,
 ⟨some 114, none, .call false 66 0 [.t 113]⟩,
 ⟨some 115, none, .fad (.t 13) 17⟩,
 ⟨none, none, .store (.t 115) (.t 114) 1⟩] [0, 6, 7, 9, 11, 13]) (
 .reg [
 ⟨some 116, none, .fad (.t 6) 2⟩,
 ⟨some 117, none, .load (.t 116) 2 true⟩,
 ⟨some 118, none, .fad (.t 6) 4⟩,
 ⟨some 119, none, .load (.t 118) 2 true⟩,
 ⟨some 120, none, .fad (.t 7) 6⟩,
 ⟨some 121, none, .load (.t 120) 2 true⟩,
 ⟨some 122, none, .fad (.t 7) 8⟩,
 ⟨some 123, none, .load (.t 122) 2 true⟩,
 ⟨some 124, none, .call false 147 0 [.t 117, .t 119, .t 121, .t 123]⟩,
 ⟨some 14, none, .mov (.t 124)⟩] [0, 9, 11, 13, 14])))) (
 .seq (
 .reg [
 ⟨some 126, none, .bin .eql (.t 50) (.k (.s (.int .i64 5)))⟩,
 ⟨some 125, none, .mov (.t 126)⟩] [0, 9, 11, 13, 14, 125]) (
 .cond (.t 125) (
 .reg [
 ⟨some 127, none, .fad (.t 13) 1⟩,
 ⟨none, none, .store (.t 127) (.k (.s (.int .i64 5))) 1⟩] [0, 9, 11, 13, 14]) (
 .skip))))))))))))) (
 .seq (
 .seq (
 .reg [
 ⟨some 128, none, .mov (.t 14)⟩,
 ⟨some 129, none, .un .not (.t 128)⟩] [0, 9, 11, 13, 129]) (
 .cond (.t 129) (
 .seq (
 .reg [
 ⟨some 130, none, .mov (.t 0)⟩,
 ⟨some 131, none, .build [.s (.int .i64 0), .s (.int .u64 0), .lit .nil [], .lit .nil [], .s (.int .i64 0)] []⟩,
 ⟨some 8, none, .mov (.t 130)⟩,
 ⟨none, none, .store (.t 9) (.t 131) 5⟩,
 ⟨some 10, none, .mov (.k (.s (.int .i64 204)))⟩] [8, 9, 10]) (
 .ret)) (
 .skip))) (
 .seq (
 .reg [
 ⟨some 133, none, .load (.t 11) 26 true⟩,
 ⟨some 134, none, .fad (.t 13) 6⟩,
 ⟨some 135, none, .load (.t 134) 1 false⟩,
 ⟨some 136, none, .call false 148 0 [.t 133, .t 135]⟩,
 ⟨some 132, none, .mov (.t 136)⟩,
 ⟨some 137, none, .ext (.t 132) 0⟩,
 ⟨some 138, none, .ext (.t 132) 1⟩,
 ⟨some 139, none, .ext (.t 132) 2⟩,
 ⟨some 15, none, .alloc [.s (.int .u64 0), .s (.int .i64 0), .s (.int .i64 0), .lit .nil [], .s (.int .i64 0), .lit .nil [], .s (.int .i64 0), .s (.int .i64 0), .lit .nil [], .lit .nil [], .s (.int .u64 0), .s (.int .u64 0), .s (.int .u64 0), .s (.int .u64 0), .s (.int .i64 0), .s (.int .i64 0), .s (.bool false), .s (.int .u64 0), .s (.int .u64 0), .s (.int .u64 0), .s (.int .u64 0), .s (.int .u64 0), .s (.int .u64 0), .s (.int .u64 0), .s (.int .u64 0), .s (.int .u64 0)]⟩,
 ⟨none, none, .store (.t 15) (.t 137) 26⟩,
 ⟨some 16, none, .mov (.t 138)⟩,
 ⟨some 17, none, .mov (.t 139)⟩] [0, 9, 13, 15, 16, 17]) (
 .seq (
 .seq (
 .reg [
 ⟨some 140, none, .mov (.t 17)⟩,
 ⟨some 141, none, .bin .neq (.t 140) (.k (.s (.int .i64 0)))⟩] [0, 9, 13, 15, 16, 17, 141]) (
 .cond (.t 141) (
 .seq (
 .reg [
 ⟨some 142, none, .mov (.t 0)⟩,
 ⟨some 143, none, .build [.s (.int .i64 0), .s (.int .u64 0), .lit .nil [], .lit .nil [], .s (.int .i64 0)] []⟩,
 ⟨some 144, none, .mov (.t 17)⟩,
 ⟨some 8, none, .mov (.t 142)⟩,
 ⟨none, none, .store (.t 9) (.t 143) 5⟩,
 ⟨some 10, none, .mov (.t 144)⟩] [8, 9, 10]) (
 .ret)) (
 .skip))) (
 .seq (
 .reg [
 ⟨some 145, none, .mov (.t 16)⟩,
 ⟨some 146, none, .fad (.t 13) 0⟩,
 ⟨none, none, .store (.t 146) (.t 145) 1⟩] [0, 9, 13, 15, 16]) (
 .seq (
 .drw [
 ⟨some 147, none, .mov (.t 0)⟩,
 ⟨some 148, none, .load (.t 15) 26 true⟩,
 ⟨some 149, none, .call false 149 0 [.t 147, .t 148]⟩,
 ⟨some 150, none, .load (.t 13) 26 true⟩,
 ⟨some 151, none, .call false 149 0 [.t 149, .t 150]⟩,
 ⟨some 152, none, .mov (.t 16)⟩,
 ⟨some 153, none, .build [.s (.int .i64 0), .s (.int .u64 0), .lit .nil [], .lit .nil [], .s (.int .i64 0)] [(1, 1, .t 152)]⟩,
 ⟨some 8, none, .mov (.t 151)⟩,
 ⟨none, none, .store (.t 9) (.t 153) 5⟩,
 ⟨some 10, none, .mov (.k (.s (.int .i64 0)))⟩] [] [] [8, 9, 10]) (
 .ret)))))))))))),
 [.t 8, .c 9 5 true, .t 10], none⟩

end Go.Mini.KT
