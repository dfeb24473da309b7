/- PROVED: the law KernNames of the given program returns true, whatever the start (it has no input). Conditions: none. -/
import Derived.Test.YtacoaelokdamnaaGreatKNok
import Derived.Test.YtacoaelokdamnaaGreatBase
import Derived.Test.YtacoaelokdamnaaGreatLaw
import Derived.Test.YtacoaelokdamnaaGreatRows
set_option linter.all false
set_option maxRecDepth 1000000
namespace Go.Proofs.YtacoaelokdamnaaGreat
open Go.ChangeShapes Go.WideShapes Go.ChangeAt Go.RowKit Go.Mini

theorem Tryz.own : ownKnob Tryz.prog.godebug = none := by kernel_rfl
theorem Tryz.laidOut : laidOutB Tryz.prog = true := by kernel_rfl

def okTrue : Rs D → Bool
  | .ok (.s (.bool b)) => b
  | _ => false
theorem okTrue_spec {r : Rs D} (h : okTrue r = true) : r = .ok (.s (.bool true)) := by
  unfold okTrue at h
  split at h
  · subst h; rfl
  · cases h

theorem kn_run : callP (KN.tree.tbl prm) 1000 4 0 [] = .ok (.s (.bool true)) := okTrue_spec (by decide +kernel)

/-- A pure call of a law, from nothing but the program's memory. -/
theorem law_calls {t : FT} (ht : t.ok Tryz.prog) {n f : Nat} {ds : List D} (h : callP (t.tbl prm) n f 0 ds = .ok (.s (.bool true))) {M : Mem} {w : World} {vs : List Value} (hi : Inv nob M [] w) (hv : VT M ds nob vs) :
    Calls Tryz.prog f vs.toArray w fun e w' => e = .returned (.bool true) ∧ Below w.heap.size w w' := by
  refine (pure_call (FT.tab_ok base ht) base.mx h hi hv).mono ?_
  rintro e w' ⟨M', v, rfl, s, i, hvv⟩
  have := (VV_s_inv hvv).1
  subst this
  exact ⟨rfl, step_below s⟩

theorem inv_none (w : World) : Inv nob (fun _ => none) [] w where
  mem := fun _ _ _ h => by cases h
  dom := fun _ _ h => by simp [nob] at h
  live := fun _ _ _ _ _ _ h => by simp [nob] at h
  inj := fun _ _ _ _ _ _ _ _ h => by simp [nob] at h

theorem kn_ok : KN.tree.ok Tryz.prog := KN.tree_ok

theorem kn_lifted (os : Os) (started : os.Started) (H : Type) (enc : TypeId × Value → H) :
    ReturnsInHanded {} Tryz.checked os 4 .any (Rows.kernNamesSpec.pre6 enc Tryz.prog Tryz.f4 Rows.kernNamesRow.domain false) (Rows.kernNamesSpec.post enc Tryz.prog Tryz.f4 false true false false) := by
  refine returnsInHanded_of_change (C := Tryz.checked) Tryz.own started (by kernel_rfl) Tryz.func4
    (ChangeSpec.witness6 (enc := enc) (C := Tryz.checked) false ⟨#[], #[], []⟩ 8 (by kernel_rfl) (by kernel_rfl) (by kernel_rfl) (by kernel_rfl)) ?_
  intro W base args ds gs before hval0 hW hcnd _
  have hW' := hW
  obtain ⟨p, q, hA0, hV, rfl, hfz, hnd⟩ := hW
  have hA : DataW.TrodAll enc Tryz.prog W 0 (fun _ => true) true Tryz.f4.params.toList args.toList ds p := hA0
  rw [Tryz.params4] at hA
  obtain ⟨h1, h2, h3⟩ := trodAll_nil hA
  have hargs : args = #[] := by cases args; simp_all
  subst hargs h2
  refine (law_calls kn_ok kn_run (inv_none W) (by simp [VT])).mono ?_
  rintro e W' ⟨rfl, hb⟩
  exact ⟨_, rfl, law_post Tryz.laidOut (by kernel_rfl) rfl Tryz.underlying4 rfl hW' hb rfl rfl rfl⟩

theorem kernNames_holds : Rows.KernNamesSaid :=
  OpenClaim.holds_of_wide 4 Tryz.f4 rfl rfl rfl rfl rfl rfl rfl ⟨rfl, rfl, rfl, rfl, rfl⟩ rfl rfl rfl rfl rfl (by kernel_rfl) Tryz.func4 (by kernel_rfl)
    (of_decide_eq_true (by kernel_rfl)) (by unfold Func.isWrapper; first | (rw [if_pos (by decide +kernel)]; kernel_rfl) | (rw [if_neg (by decide +kernel)]; exact ⟨rfl, rfl⟩))
    (fun os started H enc _ => kn_lifted os started H enc)
#print axioms kernNames_holds
end Go.Proofs.YtacoaelokdamnaaGreat
