/- What the program's functions are. -/
import Derived.Test.YtacoaelokdamnaaGreatPrims
import Derived.Test.YtacoaelokdamnaaGreatProg
import Derived.KernelRfl
set_option linter.all false
namespace Go.Mini
open Go.Proofs

def prm : Prm := ⟨187, 203, [(36, 2, 16, true), (84, 2, 16, true), (85, 1, 1, false)]⟩

theorem fo_ok : FofOK Tryz.prog 187 := by
  have h1 : Extern.findNext Tryz.f187 = none := by kernel_rfl
  have h2 : Extern.find Tryz.f187 = some Extern.MathFloatBits.float64frombits := by kernel_rfl
  have h3 : ¬ Tryz.f187.name = "runtime.NumGoroutine" := by decide +kernel
  have h4 : Tryz.f187.body = none := by kernel_rfl
  intro n w
  have h5 : Extern.MathFloatBits.float64frombits #[.int .u64 n] = pure (.float .f64 n.toNat) := rfl
  simp [callFunc, Tryz.func187, h1, h2, h3, h4, h5, mark, Sem.run]

theorem of_ok : OffOK Tryz.prog 203 := by
  have h1 : Extern.findNext Tryz.f203 = none := by kernel_rfl
  have h2 : Extern.find Tryz.f203 = some Extern.MathFloatBits.float64bits := by kernel_rfl
  have h3 : ¬ Tryz.f203.name = "runtime.NumGoroutine" := by decide +kernel
  have h4 : Tryz.f203.body = none := by kernel_rfl
  intro n w
  have h5 : Extern.MathFloatBits.float64bits #[.float .f64 n] = pure (.int .u64 n) := rfl
  simp [callFunc, Tryz.func203, h1, h2, h3, h4, h5, mark, Sem.run]

theorem base : Base Tryz.prog prm where
  mx := by decide +kernel
  fo := fo_ok
  of := of_ok
  cl := ⟨⟨_, [.s (.int .u64 0), .s (.int .i64 0)], Tryz.func36, rfl, by decide +kernel⟩, ⟨_, [.s (.int .u64 0), .s (.int .i64 0)], Tryz.func84, rfl, by decide +kernel⟩, ⟨_, [.s (.int .u8 0)], Tryz.func85, rfl, by decide +kernel⟩, trivial⟩
end Go.Mini
