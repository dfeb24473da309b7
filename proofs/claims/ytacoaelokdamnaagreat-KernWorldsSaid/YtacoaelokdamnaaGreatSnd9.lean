/- The table: every call of it is the program's. -/
import Derived.Test.YtacoaelokdamnaaGreatSnd8
set_option linter.all false
set_option linter.unusedSimpArgs false
set_option linter.unusedVariables false
namespace Go.Mini

variable {P : Program} {cx : Cx} {nt : Nat} {df : List Dfd}
variable {a : Act} {w : World} {β : Beta} {M : Mem} {H : Heap} {E : Env}

structure TabOK (P : Program) (T : Tbl) : Prop where
  fn : ∀ f k ir, T.fn f k = some ir → ∃ fn, P.funcs[f]? = some fn ∧ matFn P fn ir = true
  ex : ∀ f ds d, T.ex f ds = some d → callable P f ∧ PureOK P f ds false d
  el : ∀ f ds H d H', T.el f ds H = some (d, H') → callable P f ∧ LiveOK P f ds H false d H'
  fo : ∀ g, T.fo g = true → FofOK P g
  nw : ∀ f ds H d B, T.nw f ds H = some (d, B) → callable P f ∧ LiveOK P f ds H false d (H ++ B.toList)
  of : ∀ g, T.of g = true → OffOK P g

/-- What a run on an empty heap gives, without its live parts. -/
theorem pure_of_run {M' : Mem} {β' : Beta} {H' : Heap} {w' : World} {d r : D} {v : Value} (hi : Inv nob M [] w) (s : Step [] nob M w H' β' M' w') (i : Inv β' M' H' w') (hv : VV M' β' d v) (hf : fz false H' 24 d = some r) :
    ∃ M'' v, Step [] nob M w [] nob M'' w' ∧ Inv nob M'' [] w' ∧ VV M'' nob r v := by
  refine ⟨Mz false β' H' w' M', v, ?_, Mz_inv i, fz_VV i hf hv⟩
  refine ⟨Nat.le_refl _, Beta.le_refl _, Mem.le_trans s.ml (Mz_le false), fun b c h => .inl h, ?_, s.os, s.tape, s.output, s.size, ?_⟩
  · intro blk c h
    rcases Mz_new h with h | ⟨_, h1, ⟨b, sh, C, opn, xs, h2, _⟩, _⟩
    · exact s.mnew blk c h
    · rcases s.bnew b _ h2 with h3 | ⟨_, h3⟩
      · simp [nob] at h3
      · rcases h3 with ⟨b0, c0, h3, _⟩ | h3
        · simp [nob] at h3
        · exact .inr ⟨h3, h1⟩
  · intro blk hb _
    exact s.frame blk hb (fun b c h => by simp [nob] at h)

theorem cx_ok {T : Tbl} (hT : TabOK P T) (hmx : P.follows .mixedOrders = true) : ∀ n, CxOK P ⟨callP T n, callL T n, T.fo, T.of, T.nw⟩
  | 0 => ⟨fun f k ds d h => by simp [callP] at h, fun f k ds d h h' => by simp [callP] at h', fun f k ds H d H' h => by simp [callL] at h, fun f k ds H d H' h => by simp [callL] at h, hT.fo, hT.nw, hT.of⟩
  | n + 1 => by
    have ih := cx_ok hT hmx n
    have ht : TblOK P (fun g => T.fn g 0) := fun g ir h => hT.fn g 0 ir h
    refine ⟨?_, ?_, ?_, ?_, hT.fo, hT.nw, hT.of⟩
    · intro f k ds d h
      simp only [callP] at h
      split at h
      · rename_i d' hd
        cases h
        exact hT.ex f ds d hd
      · split at h
        · cases h
        · rename_i ir hir
          obtain ⟨fn, hf, hm⟩ := hT.fn f k ir hir
          refine ⟨matFn_callable hf hm, ?_⟩
          intro M w vs hi hv
          have hk := fn_ok ih hmx ht n hf hm hi hv
          split at h
          · rename_i d0 H' hr
            rw [hr] at hk
            split at h
            · rename_i r hfz
              cases h
              refine Calls.mono hk ?_
              rintro e w' ⟨β', M', v, rfl, s, i, hvv⟩
              obtain ⟨M'', v', q1, q2, q3⟩ := pure_of_run hi s i hvv hfz
              refine ⟨Mz false β' H' w' M', v, rfl, ?_, Mz_inv i, VV_canon (fz_VV i hfz hvv)⟩
              refine ⟨Nat.le_refl _, Beta.le_refl _, Mem.le_trans s.ml (Mz_le false), fun b c h => .inl h, ?_, s.os, s.tape, s.output, s.size, fun blk hb _ => s.frame blk hb (fun b c h => by simp [nob] at h)⟩
              intro blk c h
              rcases Mz_new h with h | ⟨_, h1, ⟨b, sh, C, opn, xs, h2, _⟩, _⟩
              · exact s.mnew blk c h
              · rcases s.bnew b _ h2 with h3 | ⟨_, h3⟩
                · simp [nob] at h3
                · rcases h3 with ⟨b0, c0, h3, _⟩ | h3
                  · simp [nob] at h3
                  · exact .inr ⟨h3, h1⟩
            · cases h
          · rename_i d0 H' hr
            split at h <;> cases h
          · cases h
    · intro f k ds d h0 h
      simp only [callP] at h
      split at h
      · cases h
      · split at h
        · cases h
        · rename_i ir hir
          obtain ⟨fn, hf, hm⟩ := hT.fn f k ir hir
          refine ⟨matFn_callable hf hm, ?_⟩
          intro M w vs hi hv
          have hk := fn_ok ih hmx ht n hf hm hi hv
          split at h
          · split at h <;> cases h
          · rename_i d0 H' hr
            rw [hr] at hk
            split at h
            · rename_i r hfz
              cases h
              refine Calls.mono hk ?_
              rintro e w' ⟨β', M', v, rfl, s, i, hvv⟩
              refine ⟨Mz false β' H' w' M', v, rfl, ?_, Mz_inv i, VV_canon (fz_VV i hfz hvv)⟩
              refine ⟨Nat.le_refl _, Beta.le_refl _, Mem.le_trans s.ml (Mz_le false), fun b c h => .inl h, ?_, s.os, s.tape, s.output, s.size, fun blk hb _ => s.frame blk hb (fun b c h => by simp [nob] at h)⟩
              intro blk c h
              rcases Mz_new h with h | ⟨_, h1, ⟨b, sh, C, opn, xs, h2, _⟩, _⟩
              · exact s.mnew blk c h
              · rcases s.bnew b _ h2 with h3 | ⟨_, h3⟩
                · simp [nob] at h3
                · rcases h3 with ⟨b0, c0, h3, _⟩ | h3
                  · simp [nob] at h3
                  · exact .inr ⟨h3, h1⟩
            · cases h
          · cases h
    · intro f k ds H d H' h
      simp only [callL] at h
      split at h
      · rename_i r hr
        cases h
        exact hT.el f ds H d H' hr
      · split at h
        · cases h
        · rename_i ir hir
          obtain ⟨fn, hf, hm⟩ := hT.fn f k ir hir
          refine ⟨matFn_callable hf hm, ?_⟩
          intro β M w vs hi hv
          have hk := fn_ok ih hmx ht n hf hm hi hv
          rw [h] at hk
          exact hk
    · intro f k ds H d H' h
      simp only [callL] at h
      split at h
      · cases h
      · split at h
        · cases h
        · rename_i ir hir
          obtain ⟨fn, hf, hm⟩ := hT.fn f k ir hir
          refine ⟨matFn_callable hf hm, ?_⟩
          intro β M w vs hi hv
          have hk := fn_ok ih hmx ht n hf hm hi hv
          rw [h] at hk
          exact hk

/-- A CALL OF THE PROGRAM's. -/
theorem pure_call {T : Tbl} (hT : TabOK P T) (hmx : P.follows .mixedOrders = true) {n f k : Nat} {ds : List D} {d : D} (h : callP T n f k ds = .ok d) {M : Mem} {w : World} {vs : List Value} (hi : Inv nob M [] w) (hv : VT M ds nob vs) :
    Calls P f vs.toArray w fun e w' => ∃ M' v, e = .returned v ∧ Step [] nob M w [] nob M' w' ∧ Inv nob M' [] w' ∧ VV M' nob d v :=
  ((cx_ok hT hmx n).pok f k ds d h).2 M w vs hi hv

end Go.Mini
