/- What all rows of this seat need. -/
import Derived.Test.YtacoaelokdamnaaGreatClosed
import Derived.Test.YtacoaelokdamnaaGreatKTok
import Derived.Test.YtacoaelokdamnaaGreatLaw
import Derived.Test.YtacoaelokdamnaaGreatRows
set_option linter.all false
set_option maxRecDepth 1000000
set_option linter.all false
namespace Go.Proofs.YtacoaelokdamnaaGreat
open Go.ChangeShapes Go.WideShapes Go.ChangeAt Go.RowKit Go.Mini

theorem Tryz.own : ownKnob Tryz.prog.godebug = none := by kernel_rfl
theorem Tryz.laidOut : laidOutB Tryz.prog = true := by kernel_rfl

/-- A pure call of a law, from nothing but the program's memory. -/
theorem law_calls {t : FT} (ht : t.ok Tryz.prog) {f : Nat} {ds : List D} (h : PC (t.tbl prm) f 0 ds = .ok (.s (.bool true))) {M : Mem} {w : World} {vs : List Value} (hi : Inv nob M [] w) (hv : VT M ds nob vs) :
    Calls Tryz.prog f vs.toArray w fun e w' => e = .returned (.bool true) ∧ Below w.heap.size w w' := by
  obtain ⟨n, hn⟩ := PC_ex h (by simp)
  refine (pure_call (FT.tab_ok base ht) base.mx hn hi hv).mono ?_
  rintro e w' ⟨M', v, rfl, s, i, hvv⟩
  have := (VV_s_inv hvv).1
  subst this
  exact ⟨rfl, step_below s⟩

theorem inv_none (w : World) : Inv nob (fun _ => none) [] w where
  mem := fun _ _ _ h => by cases h
  dom := fun _ _ h => by simp [nob] at h
  live := fun _ _ _ _ _ _ h => by simp [nob] at h
  inj := fun _ _ _ _ _ _ _ _ h => by simp [nob] at h

end Go.Proofs.YtacoaelokdamnaaGreat
