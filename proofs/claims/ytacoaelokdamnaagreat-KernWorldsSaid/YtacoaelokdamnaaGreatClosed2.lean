/- What the program answers of all things in the beginning, quota by quota. -/
import Derived.Test.YtacoaelokdamnaaGreatClosed
set_option linter.all false
set_option maxRecDepth 1000000
set_option linter.all false
namespace Go.Mini.KT

def gD (a : Int) : D := .lit .any [
  .agg [.s (.int .u64 1), .s (.int .i64 1), .s (.int .i64 2), .lit .any [], .s (.int .i64 0), .lit .any [], .s (.int .i64 a), .s (.int .i64 2), .lit .any [.agg [.s (.int .u64 65), .s (.int .i64 1)], .agg [.s (.int .u64 66), .s (.int .i64 1)]], .lit .any [],
   .s (.int .u64 0), .s (.int .u64 0), .s (.int .u64 0), .s (.int .u64 0), .s (.int .i64 0), .s (.int .i64 0), .s (.bool false), .s (.int .u64 0), .s (.int .u64 0), .s (.int .u64 0), .s (.int .u64 0), .s (.int .u64 0), .s (.int .u64 0), .s (.int .u64 0), .s (.int .u64 0), .s (.int .u64 0)],
  .agg [.s (.int .u64 65), .s (.int .i64 6), .s (.int .i64 2), .lit .any [], .s (.int .i64 0), .lit .any [], .s (.int .i64 1), .s (.int .i64 0), .lit .any [], .lit .any [],
   .s (.int .u64 0), .s (.int .u64 0), .s (.int .u64 0), .s (.int .u64 0), .s (.int .i64 0), .s (.int .i64 0), .s (.bool false), .s (.int .u64 0), .s (.int .u64 0), .s (.int .u64 0), .s (.int .u64 0), .s (.int .u64 0), .s (.int .u64 0), .s (.int .u64 0), .s (.int .u64 0), .s (.int .u64 0)],
  .agg [.s (.int .u64 66), .s (.int .i64 2), .s (.int .i64 2), .lit .any [], .s (.int .i64 2), .lit .any [], .s (.int .i64 1), .s (.int .i64 0), .lit .any [], .lit .any [],
   .s (.int .u64 0), .s (.int .u64 0), .s (.int .u64 0), .s (.int .u64 0), .s (.int .i64 0), .s (.int .i64 0), .s (.bool false), .s (.int .u64 0), .s (.int .u64 0), .s (.int .u64 0), .s (.int .u64 0), .s (.int .u64 0), .s (.int .u64 0), .s (.int .u64 0), .s (.int .u64 0), .s (.int .u64 0)]]

theorem same_all : (List.range 45).all (fun i => okTrue (callP (tree.tbl prm) 1000 14 0 [gD (i + 4 : Nat), gD (i + 4 : Nat)])) = true := by decide +kernel
theorem sound_0 : ([0, 1, 2, 3, 4] : List Nat).all (fun i => okTrue (callP (tree.tbl prm) 1000 21 0 [gD (i + 4 : Nat)])) = true := by decide +kernel
theorem sound_1 : ([5, 6, 7, 8, 9] : List Nat).all (fun i => okTrue (callP (tree.tbl prm) 1000 21 0 [gD (i + 4 : Nat)])) = true := by decide +kernel
theorem sound_2 : ([10, 11, 12, 13, 14] : List Nat).all (fun i => okTrue (callP (tree.tbl prm) 1000 21 0 [gD (i + 4 : Nat)])) = true := by decide +kernel
theorem sound_3 : ([15, 16, 17, 18, 19] : List Nat).all (fun i => okTrue (callP (tree.tbl prm) 1000 21 0 [gD (i + 4 : Nat)])) = true := by decide +kernel
theorem sound_4 : ([20, 21, 22, 23, 24] : List Nat).all (fun i => okTrue (callP (tree.tbl prm) 1000 21 0 [gD (i + 4 : Nat)])) = true := by decide +kernel
theorem sound_5 : ([25, 26, 27, 28, 29] : List Nat).all (fun i => okTrue (callP (tree.tbl prm) 1000 21 0 [gD (i + 4 : Nat)])) = true := by decide +kernel
theorem sound_6 : ([30, 31, 32, 33, 34] : List Nat).all (fun i => okTrue (callP (tree.tbl prm) 1000 21 0 [gD (i + 4 : Nat)])) = true := by decide +kernel
theorem sound_7 : ([35, 36, 37, 38, 39] : List Nat).all (fun i => okTrue (callP (tree.tbl prm) 1000 21 0 [gD (i + 4 : Nat)])) = true := by decide +kernel
theorem sound_8 : ([40, 41, 42, 43, 44] : List Nat).all (fun i => okTrue (callP (tree.tbl prm) 1000 21 0 [gD (i + 4 : Nat)])) = true := by decide +kernel
theorem sound_all (i : Nat) (h : i < 45) : okTrue (callP (tree.tbl prm) 1000 21 0 [gD (i + 4 : Nat)]) = true := by
  have h5 : i / 5 < 9 := by omega
  have h0' : i / 5 = 0 → okTrue (callP (tree.tbl prm) 1000 21 0 [gD (i + 4 : Nat)]) = true := fun e => List.all_eq_true.1 sound_0 i (by simp; omega)
  have h1' : i / 5 = 1 → okTrue (callP (tree.tbl prm) 1000 21 0 [gD (i + 4 : Nat)]) = true := fun e => List.all_eq_true.1 sound_1 i (by simp; omega)
  have h2' : i / 5 = 2 → okTrue (callP (tree.tbl prm) 1000 21 0 [gD (i + 4 : Nat)]) = true := fun e => List.all_eq_true.1 sound_2 i (by simp; omega)
  have h3' : i / 5 = 3 → okTrue (callP (tree.tbl prm) 1000 21 0 [gD (i + 4 : Nat)]) = true := fun e => List.all_eq_true.1 sound_3 i (by simp; omega)
  have h4' : i / 5 = 4 → okTrue (callP (tree.tbl prm) 1000 21 0 [gD (i + 4 : Nat)]) = true := fun e => List.all_eq_true.1 sound_4 i (by simp; omega)
  have h5' : i / 5 = 5 → okTrue (callP (tree.tbl prm) 1000 21 0 [gD (i + 4 : Nat)]) = true := fun e => List.all_eq_true.1 sound_5 i (by simp; omega)
  have h6' : i / 5 = 6 → okTrue (callP (tree.tbl prm) 1000 21 0 [gD (i + 4 : Nat)]) = true := fun e => List.all_eq_true.1 sound_6 i (by simp; omega)
  have h7' : i / 5 = 7 → okTrue (callP (tree.tbl prm) 1000 21 0 [gD (i + 4 : Nat)]) = true := fun e => List.all_eq_true.1 sound_7 i (by simp; omega)
  have h8' : i / 5 = 8 → okTrue (callP (tree.tbl prm) 1000 21 0 [gD (i + 4 : Nat)]) = true := fun e => List.all_eq_true.1 sound_8 i (by simp; omega)
  rcases (show i / 5 = 0 ∨ i / 5 = 1 ∨ i / 5 = 2 ∨ i / 5 = 3 ∨ i / 5 = 4 ∨ i / 5 = 5 ∨ i / 5 = 6 ∨ i / 5 = 7 ∨ i / 5 = 8 by omega) with e | e | e | e | e | e | e | e | e
  · exact h0' e
  · exact h1' e
  · exact h2' e
  · exact h3' e
  · exact h4' e
  · exact h5' e
  · exact h6' e
  · exact h7' e
  · exact h8' e
end Go.Mini.KT
