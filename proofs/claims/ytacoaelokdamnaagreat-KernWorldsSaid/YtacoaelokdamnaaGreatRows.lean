/-
  No cell of these rows narrows 'for every input' (looked for: loops, veiled, ifaces, maps, wideKeys, modest, calm, conditions, laid).
  DERIVED. THE GIVEN ROWS OF THIS SEAT. 7 by the template 'for every input the law returns true; each argument reads behind the call as it read before'; 0 by the template 'total and deterministic' (their statements: YtacoaelokdamnaaGreatTotals.lean).
  GIVEN WITH THE SEED: the statements are not yours to turn. If you find one false, say at which input.
  Laid BY PROGRAM, IN A SANDBOX (cutbox-rows.mjs): the forced cells as the released guide's own fill.sh prints them over the translation a698777e316ac1b0… (all of the seat's roots in one cut). By AI agents, Wed Nov 11 2026. No macro, syntax, notation, axiom, sorry.
-/
import Derived.Test.YtacoaelokdamnaaGreatChecked
import GoSem.Claim
import GoSem.ClaimJoined
import GoSem.ClaimMapViews
import Derived.JoinedTies
import Derived.KernelRfl
namespace Go.Proofs.YtacoaelokdamnaaGreat
/- THE CELL 'sum', in the pinned program and in every row, IS THE sha256 OF THE DUMP (.gsa) THAT YtacoaelokdamnaaGreatProg.lean LOADS. Nothing in Lean hashes anything: it is a label: what it is worth is what the hold of that sum in a sandbox is worth. -/
noncomputable def Tryz.pinned : Pinned := { name := "ytacoaelokdamnaagreat", sum := "a698777e316ac1b0db39d17f36443dc674006ce796aea18439744360204309a2", checked := Tryz.checked }
namespace Rows
def none {H : Type} : Left H := { results := [], args := [] }

/-- 'baileylaw13.GraphMends': WHATEVER THE INPUT: true; the input reads as it did. -/
def graphMendsSpec : ChangeSpec := { name := "graphMends", fn := fun _ => fun
  | [d] => { results := [.lit (.bool true)], args := [d] }
  | _ => none }
def graphMendsRow : OpenClaim := { program := "ytacoaelokdamnaagreat", sum := "a698777e316ac1b0db39d17f36443dc674006ce796aea18439744360204309a2", func := "bailey/baileylaw13.GraphMends", spec := "graphMends", inPlace := ["slices.overlaps[bailey/api.Thing]", "math.Float64frombits"], unfollowed := true, recurses := true, apart := false }
def GraphMendsSaid : Prop := graphMendsRow.holds Tryz.pinned (OpenSpec.ofChange graphMendsSpec)

/-- ITS FALSE NEIGHBOUR: 'it returns false'. Refute it at one input. -/
def graphMendsWrong : ChangeSpec := { name := "graphMends", fn := fun _ => fun
  | [d] => { results := [.lit (.bool false)], args := [d] }
  | _ => none }
def GraphMendsWrongFalsely : Prop := graphMendsRow.holds Tryz.pinned (OpenSpec.ofChange graphMendsWrong)

/-- 'baileylaw20.KernNames': WHATEVER THE INPUT: true; the input reads as it did. -/
def kernNamesSpec : ChangeSpec := { name := "kernNames", fn := fun _ => fun
  | [] => { results := [.lit (.bool true)], args := [] }
  | _ => none }
def kernNamesRow : OpenClaim := { program := "ytacoaelokdamnaagreat", sum := "a698777e316ac1b0db39d17f36443dc674006ce796aea18439744360204309a2", func := "bailey/baileylaw20.KernNames", spec := "kernNames", inPlace := ["math.Float64frombits", "slices.overlaps[bailey/api.Link]", "slices.overlaps[bailey/api.Thing]", "math.Float64bits"], unfollowed := true, recurses := true, apart := false }
def KernNamesSaid : Prop := kernNamesRow.holds Tryz.pinned (OpenSpec.ofChange kernNamesSpec)

/-- ITS FALSE NEIGHBOUR: 'it returns false'. Refute it at one input. -/
def kernNamesWrong : ChangeSpec := { name := "kernNames", fn := fun _ => fun
  | [] => { results := [.lit (.bool false)], args := [] }
  | _ => none }
def KernNamesWrongFalsely : Prop := kernNamesRow.holds Tryz.pinned (OpenSpec.ofChange kernNamesWrong)

/-- 'baileylaw20.KernWorlds': WHATEVER THE INPUT: true; the input reads as it did. -/
def kernWorldsSpec : ChangeSpec := { name := "kernWorlds", fn := fun _ => fun
  | [d] => { results := [.lit (.bool true)], args := [d] }
  | _ => none }
def kernWorldsRow : OpenClaim := { program := "ytacoaelokdamnaagreat", sum := "a698777e316ac1b0db39d17f36443dc674006ce796aea18439744360204309a2", func := "bailey/baileylaw20.KernWorlds", spec := "kernWorlds", inPlace := ["math.Float64frombits", "slices.overlaps[bailey/api.Link]", "slices.overlaps[bailey/api.Thing]", "math.Float64bits"], unfollowed := true, recurses := true, apart := false }
def KernWorldsSaid : Prop := kernWorldsRow.holds Tryz.pinned (OpenSpec.ofChange kernWorldsSpec)

/-- ITS FALSE NEIGHBOUR: 'it returns false'. Refute it at one input. -/
def kernWorldsWrong : ChangeSpec := { name := "kernWorlds", fn := fun _ => fun
  | [d] => { results := [.lit (.bool false)], args := [d] }
  | _ => none }
def KernWorldsWrongFalsely : Prop := kernWorldsRow.holds Tryz.pinned (OpenSpec.ofChange kernWorldsWrong)

/-- 'baileylaw20.KernRuns': WHATEVER THE INPUT: true; the input reads as it did. -/
def kernRunsSpec : ChangeSpec := { name := "kernRuns", fn := fun _ => fun
  | [d1, d2, d3] => { results := [.lit (.bool true)], args := [d1, d2, d3] }
  | _ => none }
def kernRunsRow : OpenClaim := { program := "ytacoaelokdamnaagreat", sum := "a698777e316ac1b0db39d17f36443dc674006ce796aea18439744360204309a2", func := "bailey/baileylaw20.KernRuns", spec := "kernRuns", inPlace := ["math.Float64frombits", "slices.overlaps[bailey/api.Link]", "slices.overlaps[bailey/api.Thing]", "math.Float64bits"], unfollowed := true, recurses := true, apart := false }
def KernRunsSaid : Prop := kernRunsRow.holds Tryz.pinned (OpenSpec.ofChange kernRunsSpec)

/-- ITS FALSE NEIGHBOUR: 'it returns false'. Refute it at one input. -/
def kernRunsWrong : ChangeSpec := { name := "kernRuns", fn := fun _ => fun
  | [d1, d2, d3] => { results := [.lit (.bool false)], args := [d1, d2, d3] }
  | _ => none }
def KernRunsWrongFalsely : Prop := kernRunsRow.holds Tryz.pinned (OpenSpec.ofChange kernRunsWrong)

/-- 'baileylaw20.KernFails': WHATEVER THE INPUT: true; the input reads as it did. -/
def kernFailsSpec : ChangeSpec := { name := "kernFails", fn := fun _ => fun
  | [d1, d2, d3] => { results := [.lit (.bool true)], args := [d1, d2, d3] }
  | _ => none }
def kernFailsRow : OpenClaim := { program := "ytacoaelokdamnaagreat", sum := "a698777e316ac1b0db39d17f36443dc674006ce796aea18439744360204309a2", func := "bailey/baileylaw20.KernFails", spec := "kernFails", inPlace := ["math.Float64frombits", "slices.overlaps[bailey/api.Link]", "slices.overlaps[bailey/api.Thing]", "math.Float64bits"], unfollowed := true, recurses := true, apart := false }
def KernFailsSaid : Prop := kernFailsRow.holds Tryz.pinned (OpenSpec.ofChange kernFailsSpec)

/-- ITS FALSE NEIGHBOUR: 'it returns false'. Refute it at one input. -/
def kernFailsWrong : ChangeSpec := { name := "kernFails", fn := fun _ => fun
  | [d1, d2, d3] => { results := [.lit (.bool false)], args := [d1, d2, d3] }
  | _ => none }
def KernFailsWrongFalsely : Prop := kernFailsRow.holds Tryz.pinned (OpenSpec.ofChange kernFailsWrong)

/-- 'baileylaw20.KernFixed': WHATEVER THE INPUT: true; the input reads as it did. -/
def kernFixedSpec : ChangeSpec := { name := "kernFixed", fn := fun _ => fun
  | [d1, d2, d3] => { results := [.lit (.bool true)], args := [d1, d2, d3] }
  | _ => none }
def kernFixedRow : OpenClaim := { program := "ytacoaelokdamnaagreat", sum := "a698777e316ac1b0db39d17f36443dc674006ce796aea18439744360204309a2", func := "bailey/baileylaw20.KernFixed", spec := "kernFixed", inPlace := ["math.Float64frombits", "slices.overlaps[bailey/api.Link]", "slices.overlaps[bailey/api.Thing]", "math.Float64bits"], unfollowed := true, recurses := true, apart := false }
def KernFixedSaid : Prop := kernFixedRow.holds Tryz.pinned (OpenSpec.ofChange kernFixedSpec)

/-- ITS FALSE NEIGHBOUR: 'it returns false'. Refute it at one input. -/
def kernFixedWrong : ChangeSpec := { name := "kernFixed", fn := fun _ => fun
  | [d1, d2, d3] => { results := [.lit (.bool false)], args := [d1, d2, d3] }
  | _ => none }
def KernFixedWrongFalsely : Prop := kernFixedRow.holds Tryz.pinned (OpenSpec.ofChange kernFixedWrong)

/-- 'baileylaw20.KernReads': WHATEVER THE INPUT: true; the input reads as it did. -/
def kernReadsSpec : ChangeSpec := { name := "kernReads", fn := fun _ => fun
  | [d1, d2, d3] => { results := [.lit (.bool true)], args := [d1, d2, d3] }
  | _ => none }
def kernReadsRow : OpenClaim := { program := "ytacoaelokdamnaagreat", sum := "a698777e316ac1b0db39d17f36443dc674006ce796aea18439744360204309a2", func := "bailey/baileylaw20.KernReads", spec := "kernReads", inPlace := ["math.Float64frombits", "slices.overlaps[bailey/api.Link]", "slices.overlaps[bailey/api.Thing]", "math.Float64bits"], unfollowed := true, recurses := true, apart := false }
def KernReadsSaid : Prop := kernReadsRow.holds Tryz.pinned (OpenSpec.ofChange kernReadsSpec)

/-- ITS FALSE NEIGHBOUR: 'it returns false'. Refute it at one input. -/
def kernReadsWrong : ChangeSpec := { name := "kernReads", fn := fun _ => fun
  | [d1, d2, d3] => { results := [.lit (.bool false)], args := [d1, d2, d3] }
  | _ => none }
def KernReadsWrongFalsely : Prop := kernReadsRow.holds Tryz.pinned (OpenSpec.ofChange kernReadsWrong)

/- THE SECOND FORM. 'bulk': how many values and letters a reading holds, each counted each time it is reached (what is shared counts as often as it is met; a slice's spare places count too). A statement '..UptoSaid' is the law's where the arguments, and the package variables that the reading takes, are together of bulk at most 1048576: NARROWER than '..Said'. Prove '..Said' where nothing that the law and all that it calls make is longer than what came in: it says more and counts as full. Else prove '..UptoSaid'. A law counts once. -/
mutual
def uptoBulk {H : Type} : DataW H → Nat
  | .lit (.string bytes) => bytes.length + 1
  | .lit _ => 1
  | .nil => 1
  | .ptr d => uptoBulk d + 1
  | .slice elems spare => uptoBulkAll elems + uptoBulkAll spare + 1
  | .agg parts => uptoBulkAll parts + 1
  | .iface _ d => uptoBulk d + 1
  | .map entries => uptoBulkEntries entries + 1
  | .held _ => 1
def uptoBulkAll {H : Type} : List (DataW H) → Nat
  | [] => 0
  | d :: r => uptoBulk d + uptoBulkAll r
def uptoBulkEntries {H : Type} : List (Lit × DataW H) → Nat
  | [] => 0
  | x :: r => uptoBulkEntry x + uptoBulkEntries r
def uptoBulkEntry {H : Type} : Lit × DataW H → Nat
  | (.string bytes, d) => bytes.length + uptoBulk d + 1
  | (_, d) => uptoBulk d + 1
 end
def uptoSmall : (H : Type) → List (DataW H) → Bool := fun _ ds => decide (uptoBulkAll ds ≤ 1048576)
def OpenSpec.upto (s : _root_.Go.ChangeSpec) : _root_.Go.OpenSpec := { _root_.Go.OpenSpec.ofChange s with cond := some uptoSmall }

/-- 'baileylaw13.GraphMends', WHERE WHAT IT READS IS OF BULK AT MOST 1048576: true; the input reads as it did. -/
def graphMendsUptoRow : OpenClaim := { program := "ytacoaelokdamnaagreat", sum := "a698777e316ac1b0db39d17f36443dc674006ce796aea18439744360204309a2", func := "bailey/baileylaw13.GraphMends", spec := "graphMends", inPlace := ["slices.overlaps[bailey/api.Thing]", "math.Float64frombits"], unfollowed := true, recurses := true, apart := false, narrowed := true }
def GraphMendsUptoSaid : Prop := graphMendsUptoRow.holds Tryz.pinned (OpenSpec.upto graphMendsSpec)

/-- 'baileylaw20.KernNames', WHERE WHAT IT READS IS OF BULK AT MOST 1048576: true; the input reads as it did. -/
def kernNamesUptoRow : OpenClaim := { program := "ytacoaelokdamnaagreat", sum := "a698777e316ac1b0db39d17f36443dc674006ce796aea18439744360204309a2", func := "bailey/baileylaw20.KernNames", spec := "kernNames", inPlace := ["math.Float64frombits", "slices.overlaps[bailey/api.Link]", "slices.overlaps[bailey/api.Thing]", "math.Float64bits"], unfollowed := true, recurses := true, apart := false, narrowed := true }
def KernNamesUptoSaid : Prop := kernNamesUptoRow.holds Tryz.pinned (OpenSpec.upto kernNamesSpec)

/-- 'baileylaw20.KernWorlds', WHERE WHAT IT READS IS OF BULK AT MOST 1048576: true; the input reads as it did. -/
def kernWorldsUptoRow : OpenClaim := { program := "ytacoaelokdamnaagreat", sum := "a698777e316ac1b0db39d17f36443dc674006ce796aea18439744360204309a2", func := "bailey/baileylaw20.KernWorlds", spec := "kernWorlds", inPlace := ["math.Float64frombits", "slices.overlaps[bailey/api.Link]", "slices.overlaps[bailey/api.Thing]", "math.Float64bits"], unfollowed := true, recurses := true, apart := false, narrowed := true }
def KernWorldsUptoSaid : Prop := kernWorldsUptoRow.holds Tryz.pinned (OpenSpec.upto kernWorldsSpec)

/-- 'baileylaw20.KernRuns', WHERE WHAT IT READS IS OF BULK AT MOST 1048576: true; the input reads as it did. -/
def kernRunsUptoRow : OpenClaim := { program := "ytacoaelokdamnaagreat", sum := "a698777e316ac1b0db39d17f36443dc674006ce796aea18439744360204309a2", func := "bailey/baileylaw20.KernRuns", spec := "kernRuns", inPlace := ["math.Float64frombits", "slices.overlaps[bailey/api.Link]", "slices.overlaps[bailey/api.Thing]", "math.Float64bits"], unfollowed := true, recurses := true, apart := false, narrowed := true }
def KernRunsUptoSaid : Prop := kernRunsUptoRow.holds Tryz.pinned (OpenSpec.upto kernRunsSpec)

/-- 'baileylaw20.KernFails', WHERE WHAT IT READS IS OF BULK AT MOST 1048576: true; the input reads as it did. -/
def kernFailsUptoRow : OpenClaim := { program := "ytacoaelokdamnaagreat", sum := "a698777e316ac1b0db39d17f36443dc674006ce796aea18439744360204309a2", func := "bailey/baileylaw20.KernFails", spec := "kernFails", inPlace := ["math.Float64frombits", "slices.overlaps[bailey/api.Link]", "slices.overlaps[bailey/api.Thing]", "math.Float64bits"], unfollowed := true, recurses := true, apart := false, narrowed := true }
def KernFailsUptoSaid : Prop := kernFailsUptoRow.holds Tryz.pinned (OpenSpec.upto kernFailsSpec)

/-- 'baileylaw20.KernFixed', WHERE WHAT IT READS IS OF BULK AT MOST 1048576: true; the input reads as it did. -/
def kernFixedUptoRow : OpenClaim := { program := "ytacoaelokdamnaagreat", sum := "a698777e316ac1b0db39d17f36443dc674006ce796aea18439744360204309a2", func := "bailey/baileylaw20.KernFixed", spec := "kernFixed", inPlace := ["math.Float64frombits", "slices.overlaps[bailey/api.Link]", "slices.overlaps[bailey/api.Thing]", "math.Float64bits"], unfollowed := true, recurses := true, apart := false, narrowed := true }
def KernFixedUptoSaid : Prop := kernFixedUptoRow.holds Tryz.pinned (OpenSpec.upto kernFixedSpec)

/-- 'baileylaw20.KernReads', WHERE WHAT IT READS IS OF BULK AT MOST 1048576: true; the input reads as it did. -/
def kernReadsUptoRow : OpenClaim := { program := "ytacoaelokdamnaagreat", sum := "a698777e316ac1b0db39d17f36443dc674006ce796aea18439744360204309a2", func := "bailey/baileylaw20.KernReads", spec := "kernReads", inPlace := ["math.Float64frombits", "slices.overlaps[bailey/api.Link]", "slices.overlaps[bailey/api.Thing]", "math.Float64bits"], unfollowed := true, recurses := true, apart := false, narrowed := true }
def KernReadsUptoSaid : Prop := kernReadsUptoRow.holds Tryz.pinned (OpenSpec.upto kernReadsSpec)

end Rows
end Go.Proofs.YtacoaelokdamnaaGreat
