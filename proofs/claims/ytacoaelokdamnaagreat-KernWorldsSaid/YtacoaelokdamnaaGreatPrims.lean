/- What is known of the program's library functions by other means: 'slices.Clone', the floats' bits. -/
import Derived.Test.YtacoaelokdamnaaGreatSnd9
import Derived.Test.YtacoaelokdamnaaGreatTab
set_option linter.all false
set_option linter.unusedSimpArgs false
set_option linter.unusedVariables false
namespace Go.Mini

variable {P : Program}

/-- Nothing to call. -/
def cx0 : Cx := ⟨fun _ _ _ => .no, fun _ _ _ _ => .no, fun _ => false, fun _ => false, fun _ _ _ => none⟩
theorem cx0_ok (P : Program) : CxOK P cx0 where
  pok := fun f k ds d h => by cases h
  ppan := fun f k ds d h h' => by cases h'
  lok := fun f k ds H d H' h => by cases h
  lpan := fun f k ds H d H' h => by cases h
  fo := fun g h => by cases h
  nw := fun f ds H d B h => by cases h
  of := fun g h => by cases h

def cloneIR (e bytes : Nat) (ag : Bool) (zs : List D) : FnIR := ⟨8,
  .seq (
   .reg [
     ⟨some 2, none, .mov (.k (.lit .nil []))⟩] [0]) (
   .seq (
    .seq (
     .reg [
       ⟨some 3, none, .mov (.t 0)⟩,
       ⟨some 4, none, .eqk .nils false (.t 3) (.k (.lit .nil []))⟩] [0, 4]) (
     .cond (.t 4) (
      .seq (
       .reg [
         ⟨some 2, none, .mov (.k (.lit .nil []))⟩] [2]) (
       .ret)) (
      .skip))) (
    .seq (
     .reg [
       ⟨some 5, none, .bsl true e ag zs 0 []⟩,
       ⟨some 6, none, .mov (.t 0)⟩,
       ⟨some 7, none, .app false (.t 5) (.t 6) e bytes ag⟩,
       ⟨some 2, none, .mov (.t 7)⟩] [2]) (
     .ret))),
  [.t 2], none⟩

theorem clone_run {e bytes : Nat} {ag : Bool} {zs : List D} (hag : (ag || Nat.beq e 1) = true) {x : D} {H : Heap} {d : D} {B : Option Blk} (h : cloneD0 e bytes ag x H = some (d, B)) (tbl : Nat → Option FnIR) :
    runFn tbl cx0 0 (cloneIR e bytes ag zs) [x] H = .ok (d, H ++ B.toList) := by
  have hb : ∀ (E : Env), iev cx0 (.bsl true e ag zs 0 []) E H = .ok (.lit .exact [], H) := by
    intro E
    simp only [iev, List.map_nil, evParts, reps, fillD]
    cases ag
    · simp at hag
      subst hag
      rfl
    · rfl
  have hnil : elems H x e ag = some [] → appD H false (.lit .exact []) x e bytes ag = some (.lit .exact [], H) := by
    intro h
    simp [appD, h, slen]
  have hsome : ∀ {y : D} {ys : List D}, elems H x e ag = some (y :: ys) → (Nat.ble ((y :: ys).length * bytes) 140737488355328 && Nat.ble 1 bytes) = true →
      appD H false (.lit .exact []) x e bytes ag = some (.sl H.length 0 (y :: ys).length e ag none, H ++ [.cells true true ((y :: ys).flatMap D.flat)]) := by
    intro y ys h hb
    simp only [appD, h, slen, List.length_nil, Nat.zero_add, hb, LK.full, allSize, List.all_nil, Bool.and_true, List.nil_append]
  -- behind the nil check
  have tail : ∀ (r : Bool), eqkD .nils x (.lit .nil []) = some false → ∀ dd HH, appD H false (.lit .exact []) x e bytes ag = some (dd, HH) → runFn tbl cx0 0 (cloneIR e bytes ag zs) [x] H = .ok (dd, HH) := by
    intro _ hq dd HH ha
    have hc := hb
    simp only [iev, List.map_nil] at hc
    simp [runFn, cloneIR, argEnv, run, runIns, wants, iev, Rs.ofV, Opd.ev, putD, look, keepE, hq, boolD, endFn, finish, runDfs, resVal, resOf, hc, ha]
  unfold cloneD0 at h
  split at h
  · cases h
    simp [runFn, cloneIR, argEnv, run, runIns, wants, iev, Rs.ofV, Opd.ev, putD, look, keepE, eqkD, boolD, endFn, finish, runDfs, resVal, resOf]
  · rename_i hnn
    split at h
    · cases h
    · rename_i ys hys
      have hq : (∀ k xs, x = .lit k xs → xs = [] → k = .exact ∨ k = .spare) → eqkD .nils x (.lit .nil []) = some false := by
        intro hk
        cases x <;> simp only [elems] at hys <;> first | (cases hys; done) | skip
        · rename_i k xs
          cases xs with
          | nil =>
            rcases hk k [] rfl rfl with rfl | rfl <;> rfl
          | cons y ys => cases k <;> first | rfl | exact absurd rfl (hnn _)
        · rfl
      split at h
      · split at h
        · cases h
          simpa using tail true (hq (fun k xs hx _ => by cases hx; exact .inl rfl)) _ _ (hnil hys)
        · cases h
          simpa using tail true (hq (fun k xs hx _ => by cases hx; exact .inr rfl)) _ _ (hnil hys)
        · cases h
          simpa using tail true (hq (fun k xs hx _ => by cases hx)) _ _ (hnil hys)
        · cases h
      · split at h
        · rename_i hbb
          cases h
          refine tail true (hq (fun k xs hx h0 => ?_)) _ _ (hsome hys hbb)
          subst hx h0
          simp only [elems] at hys
          split at hys <;> cases hys
        · cases h

theorem clone_ok0 (hmx : P.follows .mixedOrders = true) {f : FuncId} {fn : Func} {e bytes : Nat} {ag : Bool} {zs : List D} (hf : P.funcs[f]? = some fn) (hag : (ag || Nat.beq e 1) = true) (hm : matFn P fn (cloneIR e bytes ag zs) = true) {x : D} {H : Heap} {d : D} {B : Option Blk} (h : cloneD0 e bytes ag x H = some (d, B)) :
    callable P f ∧ LiveOK P f [x] H false d (H ++ B.toList) := by
  refine ⟨matFn_callable hf hm, ?_⟩
  intro β M w vs hi hv
  have hk := fn_ok (cx0_ok P) hmx (tbl := fun _ => none) (fun g ir h => by cases h) 0 hf hm hi hv
  rw [clone_run hag h] at hk
  exact hk

theorem VV_ful {M : Mem} {β : Beta} {k : LK} {v : Value} (hk : k = .nil ∨ k = .exact) (h : VV M β (.lit k []) v) : VV M β (.lit .ful []) v := by
  obtain ⟨ad, c, rfl, h1, h2, _⟩ := VV_lit h
  refine VV_lit_nil ?_
  rcases hk with rfl | rfl
  · exact ⟨h2.2, fun _ => h2.2⟩
  · exact ⟨h2.1, fun _ => h2.1⟩

theorem mayNil_spec {x : D} (h : mayNil x = true) : ∃ k, x = .lit k [] ∧ (k = .any ∨ k = .ful ∨ k = .bor) := by
  unfold mayNil at h
  split at h
  · exact ⟨_, rfl, .inl rfl⟩
  · exact ⟨_, rfl, .inr (.inl rfl)⟩
  · exact ⟨_, rfl, .inr (.inr rfl)⟩
  · cases h

theorem clone_ok (hmx : P.follows .mixedOrders = true) {f : FuncId} {fn : Func} {e bytes : Nat} {ag : Bool} {zs : List D} (hf : P.funcs[f]? = some fn) (hag : (ag || Nat.beq e 1) = true) (hm : matFn P fn (cloneIR e bytes ag zs) = true) {x : D} {H : Heap} {d : D} {B : Option Blk} (h : cloneD e bytes ag x H = some (d, B)) :
    callable P f ∧ LiveOK P f [x] H false d (H ++ B.toList) := by
  unfold cloneD at h
  split at h
  · rename_i hmn
    obtain ⟨k, rfl, hk⟩ := mayNil_spec hmn
    cases h
    refine ⟨matFn_callable hf hm, ?_⟩
    intro β M w vs hi hv
    have hv0 := hv
    simp only [VT] at hv
    obtain ⟨v, r, rfl, h1, h2, rfl⟩ := hv
    obtain ⟨ad, c, hvv, h3, h4, _⟩ := VV_lit ⟨h1, h2⟩
    have h5 : ad = none → c = 0 := LKok_any h4
    have key : ∀ (k' : LK), k' = .nil ∨ k' = .exact → (∀ k0, VV M β (.lit k0 []) v → cloneD0 e bytes ag (.lit k0 []) H = some (.lit k' [], none) → Calls P f [v].toArray w fun e w' => ∃ β' M' v', e = endOf false v' ∧ Step H β M w (H ++ (none : Option Blk).toList) β' M' w' ∧ Inv β' M' (H ++ (none : Option Blk).toList) w' ∧ VV M' β' (.lit .ful []) v') := by
      intro k' hk' k0 hv1 hc
      refine ((clone_ok0 hmx hf hag hm hc).2 β M w [v] hi ?_).mono ?_
      · simp only [VT]
        exact ⟨v, [], rfl, hv1.1, hv1.2, rfl⟩
      · rintro e' w' ⟨β', M', v', q1, q2, q3, q4⟩
        exact ⟨β', M', v', q1, q2, q3, VV_ful hk' q4⟩
    by_cases ha : ad = none
    · subst ha
      have hc0 := h5 rfl
      subst hc0
      refine key .nil (.inl rfl) .nil ?_ rfl
      rw [hvv]
      exact VV_lit_nil ⟨rfl, rfl⟩
    · refine key .exact (.inr rfl) .spare ?_ (by simp [cloneD0, elems, allSize])
      rw [hvv]
      exact VV_lit_nil ha
  · exact clone_ok0 hmx hf hag hm h

/-- Every entry of a list of instances. -/
def ClonesOK (P : Program) : List (Nat × Nat × Nat × Bool) → Prop
  | [] => True
  | (f, e, bytes, ag) :: r => (∃ fn zs, P.funcs[f]? = some fn ∧ (ag || Nat.beq e 1) = true ∧ matFn P fn (cloneIR e bytes ag zs) = true) ∧ ClonesOK P r

theorem nw_ok (hmx : P.follows .mixedOrders = true) : ∀ {cl : List (Nat × Nat × Nat × Bool)}, ClonesOK P cl → ∀ f ds H d B, nwD cl f ds H = some (d, B) → callable P f ∧ LiveOK P f ds H false d (H ++ B.toList)
  | [], _, f, ds, H, d, B, h => by cases h
  | (g, e, bytes, ag) :: r, hc, f, ds, H, d, B, h => by
    obtain ⟨⟨fn, zs, h1, h2, h3⟩, h4⟩ := hc
    simp only [nwD] at h
    split at h
    · rename_i hb
      obtain rfl := Nat.eq_of_beq_eq_true hb
      split at h
      · exact clone_ok hmx h1 h2 h3 h
      · cases h
    · exact nw_ok hmx h4 f ds H d B h

def FT.ok (P : Program) : FT → Prop
  | .nil => True
  | .node f ir l r => (∃ fn, P.funcs[f]? = some fn ∧ matFn P fn ir = true) ∧ l.ok P ∧ r.ok P

theorem FT.get_ok : ∀ {t : FT}, t.ok P → ∀ {f : Nat} {ir : FnIR}, t.get f = some ir → ∃ fn, P.funcs[f]? = some fn ∧ matFn P fn ir = true
  | .nil, _, f, ir, h => by cases h
  | .node g jr l r, ht, f, ir, h => by
    obtain ⟨h1, h2, h3⟩ := ht
    simp only [FT.get] at h
    split at h
    · rename_i hb
      obtain rfl := Nat.eq_of_beq_eq_true hb
      cases h
      exact h1
    · split at h
      · exact FT.get_ok h2 h
      · exact FT.get_ok h3 h

/-- What is asked of the program, once for all tables. -/
structure Base (P : Program) (p : Prm) : Prop where
  mx : P.follows .mixedOrders = true
  fo : FofOK P p.fo
  of : OffOK P p.of
  cl : ClonesOK P p.cl

theorem FT.tab_ok {p : Prm} (hb : Base P p) {t : FT} (ht : t.ok P) : TabOK P (t.tbl p) where
  fn := fun f k ir h => FT.get_ok ht h
  ex := fun f ds d h => by cases h
  el := fun f ds H d H' h => by cases h
  fo := fun g h => by
    obtain rfl := Nat.eq_of_beq_eq_true h
    exact hb.fo
  of := fun g h => by
    obtain rfl := Nat.eq_of_beq_eq_true h
    exact hb.of
  nw := fun f ds H d B h => nw_ok hb.mx hb.cl f ds H d B h

end Go.Mini
