/- Code. -/
import Derived.Test.YtacoaelokdamnaaGreatSnd5
import Derived.LoopN
set_option linter.all false
set_option linter.unusedSimpArgs false
set_option linter.unusedVariables false
namespace Go.Mini

section
variable (P : Program)
def matDfr (nt : Nat) (all : List Oper) : List Oper → List Ins → Opd → List Opd → Bool
  | [o], [], x, xs => o.guard.isNone && o.dst.isNone && (match o.op with
    | .defer c => (match c.callee with | .value y => matOpd y x | _ => false) && matOpds c.args.toList xs
    | _ => false)
  | o :: os, i :: is, x, xs => matIns P nt all o i && matDfr nt all os is x xs
  | _, _, _, _ => false

def matCode (nt : Nat) : Code → IR → Bool
  | .skip, .skip => true
  | .region _ ops draw, .reg ins _ => !draw && matAll P nt ops.toList ops.toList ins
  | .region _ ops draw, .drw ins pk fp _ => draw && drwOk P nt ops.toList ins pk fp
  | .region _ ops draw, .dfr ins x xs _ => !draw && matDfr P nt ops.toList ops.toList ins x xs
  | .seq a b, .seq x y => matCode nt a x && matCode nt b y
  | .cond c a b, .cond c' x y => matOpd c c' && matCode nt a x && matCode nt b y
  | .block id a, .block id' x => Nat.beq id id' && matCode nt a x
  | .loop a, .loop x => matCode nt a x
  | .exit id, .exit id' => Nat.beq id id'
  | .ret, .ret => true
  | _, .bad => true
  | _, _ => false
end

variable {P : Program} {cx : Cx} {nt : Nat} {df : List Dfd}
variable {a : Act} {w : World} {β : Beta} {M : Mem} {H : Heap} {E : Env}

theorem look_keepE {t : Nat} {d : D} {E : Env} : ∀ {keep : List Nat}, look t (keepE keep E) = some d → look t E = some d
  | [], h => by simp [keepE, look] at h
  | u :: r, h => by
    simp only [keepE] at h
    split at h
    · rename_i e he
      simp only [look] at h
      split at h
      · rename_i hb
        obtain rfl := Nat.eq_of_beq_eq_true hb
        cases h
        exact he
      · exact look_keepE h
    · exact look_keepE h

theorem AR.keep (h : AR nt M β a E df) (keep : List Nat) : AR nt M β a (keepE keep E) df :=
  ⟨h.sz, fun t d ht => h.er t d (look_keepE ht), h.df⟩

def exOf : Ex → Exit
  | .nxt => .normal
  | .exit id => .exit id
  | .ret => .ret

/-- What is owed behind a piece of code. -/
def RcOk (nt : Nat) (β : Beta) (M : Mem) (H : Heap) (w : World) (Q : Exit → Act → World → Prop) : Rc → Prop
  | .ok x st => ∀ β' M' a' w', Step H β M w st.h β' M' w' → Inv β' M' st.h w' → AR nt M' β' a' st.e st.df → Q (exOf x) a' w'
  | .pan d st => ∀ β' M' a' w' v, Step H β M w st.h β' M' w' → Inv β' M' st.h w' → AR nt M' β' a' st.e st.df → VV M' β' d v → Q (.panic [{ v, recovered := false }]) a' w'
  | .no => False

theorem RcOk.step {H1 : Heap} {β1 : Beta} {M1 : Mem} {w1 : World} {Q : Exit → Act → World → Prop} {r : Rc} (hs : Step H β M w H1 β1 M1 w1)
    (h : RcOk nt β M H w Q r) : RcOk nt β1 M1 H1 w1 Q r := by
  cases r with
  | ok x st => exact fun β' M' a' w' s i r => h β' M' a' w' (hs.trans s) i r
  | pan d st => exact fun β' M' a' w' v s i r hv => h β' M' a' w' v (hs.trans s) i r hv
  | no => exact h

theorem matDfr_spec {P : Program} {nt : Nat} {all : List Oper} : ∀ {l : List Oper} {ins : List Ins} {x : Opd} {xs : List Opd}, matDfr P nt all l ins x xs = true →
    ∃ l' o c y, l = l' ++ [o] ∧ matAll P nt all l' ins = true ∧ o.guard = none ∧ o.dst = none ∧ o.op = .defer c ∧ c.callee = .value y ∧ matOpd y x = true ∧ matOpds c.args.toList xs = true
  | [], _, _, _, h => by simp [matDfr] at h
  | [o], [], x, xs, h => by
    simp only [matDfr, Bool.and_eq_true, Option.isNone_iff_eq_none] at h
    obtain ⟨⟨h1, h2⟩, h3⟩ := h
    split at h3
    · rename_i c hc
      simp only [Bool.and_eq_true] at h3
      obtain ⟨h3, h4⟩ := h3
      split at h3
      · rename_i y hy
        exact ⟨[], o, c, y, rfl, rfl, h1, h2, hc, hy, h3, h4⟩
      · cases h3
    · cases h3
  | o :: o' :: l, [], x, xs, h => by simp [matDfr] at h
  | o :: l, i :: is, x, xs, h => by
    have h : matIns P nt all o i = true ∧ matDfr P nt all l is x xs = true := by
      cases l <;> simpa [matDfr] using h
    obtain ⟨l', o', c, y, h1, h2, h3⟩ := matDfr_spec h.2
    exact ⟨o :: l', o', c, y, by simp [h1], by simp [matAll, h.1, h2], h3⟩

theorem code_ok (hcx : CxOK P cx) (hmx : P.follows .mixedOrders = true) (n : Nat) : ∀ (ir : IR) (c : Code) (Q : Exit → Act → World → Prop) (st : St) (β : Beta) (M : Mem) (a : Act) (w : World),
    matCode P nt c ir = true → Inv β M st.h w → AR nt M β a st.e st.df → RcOk nt β M st.h w Q (run cx n ir st) → c.wp P Q a w
  | .skip, c, Q, st, β, M, a, w, hm, hi, ha, h => by
    cases c <;> simp only [matCode] at hm <;> first | (cases hm; done) | skip
    simp only [run, RcOk] at h
    exact wp_skip (h β M a w (Step.refl ..) hi ha)
  | .reg ins keep, c, Q, st, β, M, a, w, hm, hi, ha, h => by
    cases c <;> simp only [matCode] at hm <;> first | (cases hm; done) | skip
    rename_i id ops draw
    simp only [Bool.and_eq_true, Bool.not_eq_true'] at hm
    obtain ⟨rfl, hm⟩ := hm
    refine wp_region ?_
    have hr : List.range ops.size = List.range' 0 ops.toList.length ++ [] := by simp [List.range_eq_range']
    rw [hr]
    refine seq_ok hcx (Q := Q) (df := st.df) ops.toList ins 0 st.e st.h β M w a hm (fun i o h => by simpa using h) hi ha ?_
    simp only [run] at h
    split at h
    · rename_i E H he
      rw [he]
      intro β' M' a' w' s i r
      simpa [wpOps, exOf] using h β' M' a' w' s i (r.keep keep)
    · rename_i d E H he
      rw [he]
      exact h
    · exact h.elim
  | .drw ins pk fp keep, c, Q, st, β, M, a, w, hm, hi, ha, h => by
    cases c <;> simp only [matCode] at hm <;> first | (cases hm; done) | skip
    rename_i id ops draw
    simp only [Bool.and_eq_true] at hm
    obtain ⟨rfl, hm⟩ := hm
    simp only [run] at h
    split at h
    · rename_i E H he
      split at h
      · rename_i hf
        refine drw_ok hcx hmx hm hi ha ?_ ?_
        · rw [he]
          intro β' M' a' w' s i r
          exact h β' M' a' w' s i (r.keep keep)
        · rw [he]
          exact hf
      · exact h.elim
    · rename_i d E H he
      split at h
      · refine drw_ok hcx hmx hm hi ha ?_ ?_
        · rw [he]
          exact h
        · rw [he]
      · exact h.elim
    · exact h.elim
  | .dfr ins x xs keep, c, Q, st, β, M, a, w, hm, hi, ha, h => by
    cases c <;> simp only [matCode] at hm <;> first | (cases hm; done) | skip
    rename_i id ops draw
    simp only [Bool.and_eq_true, Bool.not_eq_true'] at hm
    obtain ⟨rfl, hm⟩ := hm
    obtain ⟨l, o, cc, y, hl, hm1, hg, hd, hop, hcal, hx, hxs⟩ := matDfr_spec hm
    refine wp_region ?_
    have hsz : ops.size = l.length + 1 := by
      have := congrArg List.length hl
      simpa using this
    have hr : List.range ops.size = List.range' 0 l.length ++ [l.length] := by rw [hsz, List.range_succ, List.range_eq_range']
    rw [hr]
    refine seq_ok hcx (Q := Q) (df := st.df) l ins 0 st.e st.h β M w a hm1 (fun i o h => by
      have hi : i < l.length := (List.getElem?_eq_some_iff.1 h).1
      have : ops.toList[i]? = some o := by rw [hl, List.getElem?_append_left hi]; exact h
      simpa using this) hi ha ?_
    simp only [run] at h
    split at h
    · rename_i E H he
      rw [he]
      intro β' M' a' w' s i r
      split at h
      · rename_i f first cap ds hx' hxs'
        have ho : ops[l.length]? = some o := by
          have : ops.toList[l.length]? = some o := by rw [hl]; simp
          simpa using this
        refine wpOps_cons' ho true (by simp [Region.wanted, hg]) ?_
        have hvx := opd_sound hx (r.he _) hx'
        have hv := opds_sound hxs (r.he _) hxs'
        have hvn := VV_nonagg hvx rfl
        simp only [VF, List.cons.injEq, and_true] at hvn
        obtain ⟨fs, cs, e1, g1, g2⟩ := hvn
        have hmap : cc.args.map a'.eval = (cc.args.toList.map a'.eval).toArray := by apply Array.ext'; simp
        have hrun : (execOp a'.eval o).run P w' = .ok (.defer { target := .fn (.func f) cs, args := fs ++ cc.args.map a'.eval }) w' := by
          simp [execOp, hop, resolve, hcal, Deferred.ofValue, e1]
        unfold Oper.wp
        rw [hrun]
        simp only [Oper.upon, hd, Act.put, wpOps]
        refine h β' M' _ w' s i ?_
        refine ⟨r.sz, fun t d ht => r.er t d (look_keepE ht), ?_⟩
        refine ⟨⟨cs, rfl, ?_⟩, r.df⟩
        have := VT_append (VT_append g1 hv) g2
        simpa using this
      · exact h.elim
    · rename_i d E H he
      rw [he]
      exact h
    · exact h.elim
  | .seq x y, c, Q, st, β, M, a, w, hm, hi, ha, h => by
    cases c <;> simp only [matCode] at hm <;> first | (cases hm; done) | skip
    simp only [Bool.and_eq_true] at hm
    refine wp_seq (code_ok hcx hmx n x _ _ st β M a w hm.1 hi ha ?_)
    simp only [run] at h
    split at h
    · rename_i st' he
      rw [he]
      intro β' M' a' w' s i r
      exact code_ok hcx hmx n y _ Q st' β' M' a' w' hm.2 i r (h.step s)
    · rename_i r hne
      cases hr : run cx n x st with
      | ok e st' =>
        rw [hr] at h
        cases e with
        | nxt => exact absurd hr (by rw [hr]; exact fun _ => hne st' hr)
        | exit id => exact h
        | ret => exact h
      | pan d st' => rw [hr] at h; exact h
      | no => rw [hr] at h; exact h
  | .cond cc x y, c, Q, st, β, M, a, w, hm, hi, ha, h => by
    cases c <;> simp only [matCode] at hm <;> first | (cases hm; done) | skip
    simp only [Bool.and_eq_true] at hm
    obtain ⟨⟨h1, h2⟩, h3⟩ := hm
    simp only [run] at h
    split at h
    · rename_i hc
      have hv := (VV_s_inv (opd_sound h1 (ha.he _) hc)).1
      exact wp_cond (t := true) hv (code_ok hcx hmx n x _ Q st β M a w h2 hi ha h)
    · rename_i hc
      have hv := (VV_s_inv (opd_sound h1 (ha.he _) hc)).1
      exact wp_cond (t := false) hv (code_ok hcx hmx n y _ Q st β M a w h3 hi ha h)
    · exact h.elim
  | .block id x, c, Q, st, β, M, a, w, hm, hi, ha, h => by
    cases c <;> simp only [matCode] at hm <;> first | (cases hm; done) | skip
    rename_i id1 body
    simp only [Bool.and_eq_true] at hm
    obtain ⟨h1, h2⟩ := hm
    obtain rfl := Nat.eq_of_beq_eq_true h1
    refine wp_block (code_ok hcx hmx n x _ _ st β M a w h2 hi ha ?_)
    simp only [run] at h
    split at h
    · rename_i j st' he
      rw [he]
      split at h
      · rename_i hj
        obtain rfl := Nat.eq_of_beq_eq_true hj
        intro β' M' a' w' s i r
        simp only [exOf, Exit.inBlock, if_true]
        exact h β' M' a' w' s i r
      · rename_i hj
        intro β' M' a' w' s i r
        have hne : ¬ j = id1 := fun e => by subst e; simp at hj
        simp only [exOf, Exit.inBlock, hne, if_false]
        exact h β' M' a' w' s i r
    · rename_i r hne
      cases hr : run cx n x st with
      | ok e st' =>
        rw [hr] at h
        cases e with
        | nxt => exact h
        | exit j => exact absurd hr (hne j st')
        | ret => exact h
      | pan d st' => rw [hr] at h; exact h
      | no => rw [hr] at h; exact h
  | .loop x, c, Q, st, β, M, a, w, hm, hi, ha, h => by
    cases c <;> simp only [matCode] at hm <;> first | (cases hm; done) | skip
    rename_i b
    refine wp_loop_rounds n ?_
    simp only [run] at h
    have key : ∀ (k : Nat) (st : St) (β : Beta) (M : Mem) (a : Act) (w : World), Inv β M st.h w → AR nt M β a st.e st.df → RcOk nt β M st.h w Q (runLoop (run cx n x) k st) → Code.rounds P b Q k a w := by
      intro k
      induction k with
      | zero => intro st β M a w _ _ h; exact h.elim
      | succ k ih =>
        intro st β M a w hi ha h
        rw [rounds_succ]
        refine code_ok hcx hmx n x b _ st β M a w hm hi ha ?_
        simp only [runLoop] at h
        split at h
        · rename_i st' he
          rw [he]
          intro β' M' a' w' s i r
          exact ih st' β' M' a' w' i r (h.step s)
        · rename_i r hne
          cases hr : run cx n x st with
          | ok e st' =>
            rw [hr] at h
            cases e with
            | nxt => exact absurd hr (hne st')
            | exit j => exact h
            | ret => exact h
          | pan d st' => rw [hr] at h; exact h
          | no => rw [hr] at h; exact h
    exact key n st β M a w hi ha h
  | .exit id, c, Q, st, β, M, a, w, hm, hi, ha, h => by
    cases c <;> simp only [matCode] at hm <;> first | (cases hm; done) | skip
    obtain rfl := Nat.eq_of_beq_eq_true hm
    simp only [run, RcOk] at h
    exact wp_exit (h β M a w (Step.refl ..) hi ha)
  | .ret, c, Q, st, β, M, a, w, hm, hi, ha, h => by
    cases c <;> simp only [matCode] at hm <;> first | (cases hm; done) | skip
    simp only [run, RcOk] at h
    exact wp_ret (h β M a w (Step.refl ..) hi ha)
  | .bad, c, Q, st, β, M, a, w, hm, hi, ha, h => by
    simp only [run, RcOk] at h

end Go.Mini
