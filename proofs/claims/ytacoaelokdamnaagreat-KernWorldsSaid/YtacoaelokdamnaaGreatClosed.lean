/- What the program answers where nothing is open. -/
import Derived.Test.YtacoaelokdamnaaGreatSym
import Derived.Test.YtacoaelokdamnaaGreatKT
import Derived.Test.YtacoaelokdamnaaGreatBase
set_option linter.all false
set_option maxRecDepth 1000000
set_option linter.all false
namespace Go.Mini.KT
noncomputable abbrev T := tree.tbl prm

def okTrue : Rs D → Bool
  | .ok (.s (.bool b)) => b
  | _ => false
theorem okTrue_spec {r : Rs D} (h : okTrue r = true) : r = .ok (.s (.bool true)) := by
  unfold okTrue at h
  split at h
  · subst h; rfl
  · cases h

theorem alive : PC T 18 0 [] = .ok (.s (.bool true)) := PC_eq (n := 1000) (okTrue_spec (by decide +kernel)) (by simp)
theorem same_nil : PC T 14 0 [.lit .any [], .lit .any []] = .ok (.s (.bool true)) := PC_eq (n := 1000) (okTrue_spec (by decide +kernel)) (by simp)

end Go.Mini.KT
