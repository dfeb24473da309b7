/- Regions whose order is open: joined. -/
import Derived.Test.YtacoaelokdamnaaGreatSnd4
set_option linter.all false
set_option linter.unusedSimpArgs false
set_option linter.unusedVariables false
namespace Go.Mini

variable {P : Program} {cx : Cx} {nt : Nat} {ops : Array Oper} {ins : List Ins} {pk : List Nat} {fp : List (Nat × Nat)} {m : Nat} {Es : Nat → Env} {Hs : Nat → Heap} {ds : Nat → D} {H0 : Heap} {β0 : Beta} {M0 : Mem} {w0 : World} {df : List Dfd}
variable {listed : Array Bool} {a : Act} {w : World} {β : Beta} {M : Mem} {H : Heap} {E0 : Env} {Q : Exit → Act → World → Prop}

theorem alloc_place {o : Oper} {zs : List D} {b : Nat} (hm : matOp P o.op (.alloc zs) = true) (hi : Inv β M H w) (hb : H[b]? = some (.cells true false zs)) (hn : β b = none) :
    ∃ (cs : Array Value) (t : TypeId), (∀ (next : Act → World → Prop) (Q : Exit → Act → World → Prop), next (a.put o.dst (.pointer (some ⟨w.heap.size, 0, none⟩))) (w.alloc (.cells cs t)) → o.wp P a w next Q) ∧
      Inv (β.put b (w.heap.size, 0, cs.size)) M H (w.alloc (.cells cs t)) := by
  obtain ⟨dst, op, ty, pos, after, guard⟩ := o
  simp only [matOp] at hm
  split at hm
  · rename_i t
    obtain ⟨i, z, h1, h2, h3⟩ := zeroOk_spec hm
    obtain ⟨h4, h5⟩ := zsOk_spec h3 M β
    have hz := zs_size h4
    refine ⟨z.cells, t, ?_, place_inv hi hb hn (by omega) (fun _ => by omega) h5⟩
    intro next Q h
    have hr : (execOp a.eval { dst := dst, op := .alloc t, type := ty, pos := pos, after := after, guard := guard }).run P w = .ok (.value (.pointer (some ⟨w.heap.size, 0, none⟩))) (w.alloc (.cells z.cells t)) := by
      simp [execOp, Instr.alloc, zeroValue, typeInfo, h1, h2, newVar, run_row]
    unfold Oper.wp
    rw [hr]
    exact h
  · cases hm

theorem allocs_get : ∀ {ins : List Ins} {j : Nat} {x : Ins} {zs : List D}, ins[j]? = some x → x.op = .alloc zs → (allocsOf ins)[nal ins j]? = some (.cells true false zs)
  | [], j, x, zs, h, _ => by simp at h
  | i :: r, 0, x, zs, h, hz => by
    simp at h; subst h
    simp [nal, allocsOf, hz]
  | i :: r, j + 1, x, zs, h, hz => by
    have ih := allocs_get (ins := r) (j := j) (by simpa using h) hz
    rw [nal_cons]
    by_cases h3 : i.op.cls = 3
    · obtain ⟨zs', hz'⟩ := cls3.1 h3
      rw [if_pos h3, Nat.add_comm 1]
      simp only [allocsOf, hz']
      simpa using ih
    · have : allocsOf (i :: r) = allocsOf r := by
        obtain ⟨dst, g, op⟩ := i
        cases op <;> first | rfl | exact absurd rfl h3
      rw [this]
      simpa [h3] using ih

theorem nal_lt : ∀ {ins : List Ins} {i j : Nat} {x : Ins}, i < j → ins[i]? = some x → x.op.cls = 3 → nal ins i < nal ins j
  | [], i, j, x, _, h, _ => by simp at h
  | y :: r, 0, j + 1, x, _, h, h3 => by
    simp at h; subst h
    rw [nal_cons]
    simp only [h3, if_true]
    simp [nal, allocsOf]
    omega
  | y :: r, i + 1, j + 1, x, hij, h, h3 => by
    rw [nal_cons, nal_cons]
    have := nal_lt (ins := r) (i := i) (j := j) (by omega) (by simpa using h) h3
    omega
  | y :: r, 0, 0, x, h, _, _ => by omega
  | y :: r, i + 1, 0, x, h, _, _ => by omega

/-- A block that isn't placed yet is as it was made. -/
theorem DI.zero (F : Fx P cx nt ops ins pk fp m Es Hs ds H0) (W : DI ops ins nt m E0 Hs ds β0 M0 H0 w0 df listed a w β M H) {j : Nat} {y : Ins} {zs : List D} (hn : Nxt ops listed j) (hy : ins[j]? = some y) (hj : j < m) (hz : y.op = .alloc zs) :
    H[H0.length + nal ins j]? = some (.cells true false zs) := by
  have h3 : y.op.cls = 3 := cls3.2 ⟨zs, hz⟩
  -- up to there
  have up : ∀ q, q ≤ j → (Hs q)[H0.length + nal ins j]? = some (.cells true false zs) := by
    intro q
    induction q with
    | zero =>
      intro _
      rw [F.hs0, List.getElem?_append_right (by omega), Nat.add_sub_cancel_left]
      exact allocs_get hy hz
    | succ q ih =>
      intro hq
      by_cases e : Hs q = Hs (q + 1)
      · rw [← e]; exact ih (by omega)
      · exact F.tr.zer q j y zs (by omega) (by omega) hy hz e
  obtain ⟨k, hk, rfl, hs⟩ := W.stage
  by_cases hkj : k ≤ j
  · exact up k hkj
  · have : Hs k = Hs j := by
      refine F.heap_const (by omega) hk ?_
      intro i x h1 h2 hx hc
      have hL := (hs i x (by omega) hx hc).2 h2
      have hij : j < i := by
        rcases Nat.lt_or_ge j i with h | h
        · exact h
        · have : i = j := by omega
          subst this
          rw [hy] at hx
          cases hx
          omega
      rcases (F.pair hij hy hx).2 with h | ⟨_, h, _⟩
      · exact hn.un (W.closed i hL j h)
      · exact h ⟨h3, hc⟩
    rw [this]
    exact up j (Nat.le_refl _)

theorem look_dropE {t : Nat} {d : D} {ins : List Ins} : ∀ {E : Env}, look t (dropE ins E) = some d → (∀ x ∈ ins, x.dst ≠ some t) ∧ look t E = some d
  | [], h => by simp [dropE, look] at h
  | (u, e) :: E, h => by
    simp only [dropE, List.filter_cons] at h
    split at h
    · rename_i hp
      simp only [look] at h ⊢
      split at h
      · rename_i hb
        obtain rfl := Nat.eq_of_beq_eq_true hb
        cases h
        refine ⟨fun x hx => ?_, rfl⟩
        have := List.all_eq_true.1 hp x hx
        simpa using this
      · exact look_dropE h
    · rename_i hp
      obtain ⟨h1, h2⟩ := look_dropE (E := E) h
      refine ⟨h1, ?_⟩
      simp only [look]
      split
      · rename_i hb
        obtain rfl := Nat.eq_of_beq_eq_true hb
        exfalso
        apply hp
        refine List.all_eq_true.2 fun x hx => ?_
        simpa using h1 x hx
      · exact h2

theorem count_set : ∀ {l : List Bool} {j : Nat}, l[j]? = some false → (l.set j true).countP (· == false) + 1 = l.countP (· == false)
  | [], j, h => by simp at h
  | b :: l, 0, h => by simp at h; subst h; simp
  | b :: l, j + 1, h => by
    have := count_set (l := l) (j := j) (by simpa using h)
    simp only [List.set_cons_succ, List.countP_cons]
    omega

theorem ready_some (F : Fx P cx nt ops ins pk fp m Es Hs ds H0) (hl : listed.size = ops.size) : ∀ (n j : Nat), j < n → j < ops.size → ¬ Ld listed j → Region.ready .any ops listed ≠ []
  | 0, j, h, _, _ => by omega
  | n + 1, j, hn, hj, hu => by
    have ho : ops[j]? = some ops[j] := by simp [hj]
    by_cases h : ∃ e ∈ ops[j].after.toList, Region.binds .any e = true ∧ ¬ Ld listed e.on
    · obtain ⟨e, he, hb, hne⟩ := h
      have := edgesLow_spec F.low j ops[j] (by simp [hj]) e he hb
      exact ready_some F hl n e.on (by omega) (by omega) hne
    · intro hr
      have : j ∈ Region.ready .any ops listed := by
        refine mem_ready.2 ⟨?_, ops[j], ho, ?_⟩
        · have hlt : j < listed.size := by omega
          unfold Ld at hu
          simp only [Array.getD_eq_getD_getElem?, Array.getElem?_eq_getElem hlt, Option.getD_some] at hu ⊢
          simpa using hu
        · intro e he hb
          by_cases hL : Ld listed e.on
          · exact hL
          · exact absurd ⟨e, by simpa using he, hb, hL⟩ h
      rw [hr] at this
      cases this

/-- What is owed at the end. -/
structure Post (cx : Cx) (ins : List Ins) (nt m : Nat) (E0 : Env) (Es : Nat → Env) (Hs : Nat → Heap) (β0 : Beta) (M0 : Mem) (H0 : Heap) (w0 : World) (df : List Dfd) (Q : Exit → Act → World → Prop) : Prop where
  ok : m = ins.length → ∀ β M a w, Step H0 β0 M0 w0 (Hs m) β M w → Inv β M (Hs m) w → AR nt M β a (Es m) df → Q .normal a w
  pan : m < ins.length → ∃ d H' x, ins[m]? = some x ∧ x.op.cls ≠ 3 ∧ wants x.g (Es m) = some true ∧ iev cx x.op (Es m) (Hs m) = .pan d H' ∧
    ∀ β M a w v, Step H0 β0 M0 w0 H' β M w → Inv β M H' w → AR nt M β a (dropE ins E0) df → VV M β d v → Q (.panic [{ v, recovered := false }]) a w

theorem cls0_pan {op : IOp} (hc : op.cls = 0) {E : Env} {H H' : Heap} {d : D} (h : iev cx op E H = .pan d H') : False := by
  have key : ∀ {x : Option D}, Rs.ofV H x ≠ .pan d H' := fun {x} hx => by cases x <;> cases hx
  cases op <;> simp only [IOp.cls] at hc <;> simp only [iev] at h
  case call live f k xs => cases live <;> simp at hc
  case clv live x xs => cases live <;> simp at hc
  case bsl asLit e ag zs len ps =>
    cases asLit
    · simp at hc
    · repeat' split at h
      all_goals first | (cases h; done) | (simp_all; done)
  case msl asLit n c e bytes ag zs =>
    cases asLit
    · simp at hc
    · repeat' split at h
      all_goals first | (cases h; done) | (simp_all; done)
  all_goals first
    | (exact absurd hc (by decide); done)
    | (exact key h; done)
    | (repeat' split at h
       all_goals first | (cases h; done) | (exact key h))

theorem DI.finish (F : Fx P cx nt ops ins pk fp m Es Hs ds H0) (he : Es 0 = E0) (hp : Post cx ins nt m E0 Es Hs β0 M0 H0 w0 df Q) (W : DI ops ins nt m E0 Hs ds β0 M0 H0 w0 df listed a w β M H) (hall : ∀ i, i < ops.size → Ld listed i) : Q .normal a w := by
  have hlen : ops.size = ins.length := by simpa using (matAll_get F.mat).1
  have hml : m = ins.length := by
    have := F.ml
    rcases Nat.lt_or_ge m ins.length with h | h
    · have hx : ins[m]? = some ins[m] := by simp [h]
      have := W.below m _ (hall m (by omega)) hx
      omega
    · omega
  obtain ⟨k, hk, hH, hs⟩ := W.stage
  have hHm : H = Hs m := by
    rw [hH]; symm
    refine F.heap_const hk (Nat.le_refl _) ?_
    intro i x h1 h2 h3 h4
    have := (hs i x h2 h3 h4).1 (hall i (by omega))
    omega
  subst hHm
  refine hp.ok hml β M a w W.stp W.inv ⟨W.tsz, ?_, W.dfr⟩
  intro t d hl
  by_cases hw : ∃ i x, i < m ∧ ins[i]? = some x ∧ x.dst = some t
  · obtain ⟨i, x, hi, hx, hd⟩ := hw
    rw [F.env_some hx hd (Nat.le_refl _) hi] at hl
    cases hl
    exact W.tm1 t i x hx hd (hall i (by omega)) hi
  · have hw' : ∀ i x, i < m → ins[i]? = some x → x.dst ≠ some t := fun i x h1 h2 h3 => hw ⟨i, x, h1, h2, h3⟩
    rw [F.env_none (Nat.le_refl _) hw', he] at hl
    refine W.tm2 t d ?_ hl
    intro i x hx hd
    have hi : i < ins.length := (List.getElem?_eq_some_iff.1 hx).1
    exact absurd hd (hw' i x (by omega) hx)

theorem drw_any (hcx : CxOK P cx) (F : Fx P cx nt ops ins pk fp m Es Hs ds H0) (he : Es 0 = E0) (hp : Post cx ins nt m E0 Es Hs β0 M0 H0 w0 df Q) :
    ∀ (fuel : Nat) (listed : Array Bool) (a : Act) (w : World) (β : Beta) (M : Mem) (H : Heap), DI ops ins nt m E0 Hs ds β0 M0 H0 w0 df listed a w β M H → listed.toList.countP (· == false) = fuel → wpAny P .any ops Q fuel listed a w
  | 0, listed, a, w, β, M, H, W, hf => by
    have hall : ∀ i, i < ops.size → Ld listed i := by
      intro i hi
      have hi' : i < listed.size := by rw [W.lsz]; exact hi
      have := List.countP_eq_zero.1 hf listed[i] (by simp)
      unfold Ld
      simp only [Array.getD_eq_getD_getElem?, Array.getElem?_eq_getElem hi', Option.getD_some]
      simpa using this
    refine ⟨?_, W.finish F he hp hall⟩
    cases hr : Region.ready .any ops listed with
    | nil => rfl
    | cons j r =>
      have hn := nxt_of_ready W.lsz W.closed (j := j) (by rw [hr]; simp)
      exact absurd (hall j hn.lt) hn.un
  | fuel + 1, listed, a, w, β, M, H, W, hf => by
    have hlen : ops.size = ins.length := by simpa using (matAll_get F.mat).1
    refine ⟨?_, ?_⟩
    · intro hr
      refine W.finish F he hp fun i hi => ?_
      by_cases h : Ld listed i
      · exact h
      · exact absurd hr (ready_some F W.lsz (i + 1) i (by omega) hi h)
    · intro j hj
      have hn := nxt_of_ready W.lsz W.closed hj
      have hjs : j < listed.size := by rw [W.lsz]; exact hn.lt
      have hjl : j < ins.length := by rw [← hlen]; exact hn.lt
      have ho : ops[j]? = some ops[j] := by simp [hn.lt]
      have hy : ins[j]? = some ins[j] := by simp [hjl]
      generalize ops[j] = o at ho
      generalize ins[j] = y at hy
      have hmat := (matAll_get F.mat).2 j o y (by simpa using ho) hy
      simp only [matIns, Bool.and_eq_true] at hmat
      obtain ⟨⟨hd, hg⟩, hop⟩ := hmat
      have hcnt : (listed.setIfInBounds j true).toList.countP (· == false) = fuel := by
        have h1 : listed.toList[j]? = some false := by
          have := hn.un
          unfold Ld at this
          simp only [Array.getD_eq_getD_getElem?, Array.getElem?_eq_getElem hjs, Option.getD_some, Bool.not_eq_true] at this
          simp [hjs, this]
        have := count_set h1
        rw [Array.toList_setIfInBounds]
        omega
      have IH : ∀ a w β M H, DI ops ins nt m E0 Hs ds β0 M0 H0 w0 df (listed.setIfInBounds j true) a w β M H → wpAny P .any ops Q fuel (listed.setIfInBounds j true) a w :=
        fun a w β M H W' => drw_any hcx F he hp fuel _ a w β M H W' hcnt
      -- an operation that the run in the text's order asked for
      have hread : j ≤ m → ∀ t d, t ∈ y.reads → look t (Es j) = some d → VV M β d (a.tmps.getD t undef) := fun hjm t d ht hl => W.reads F he hn hy hjm ht hl
      have hguard : j ≤ m → ∀ t c d, y.g = some (t, c) → look t (Es j) = some d → VV M β d (a.tmps.getD t undef) := fun hjm t c d hgg hl => hread hjm t d (by simp [Ins.reads, hgg]) hl
      have hHE : j ≤ m → HE M β a (Es j) y.op.tmps := fun hjm t d ht hl => hread hjm t d (by simp [Ins.reads, ht]) hl
      have skip : Region.wanted o (yielded ops a.tmps) = false → wpAny P .any ops Q fuel (listed.setIfInBounds j true) (a.put o.dst undef) w → wpOp P ops Q j (wpAny P .any ops Q fuel (listed.setIfInBounds j true)) a w := by
        intro hw h
        simp only [wpOp, ho, hw]
        exact h
      have run : Region.wanted o (yielded ops a.tmps) = true → o.wp P a w (wpAny P .any ops Q fuel (listed.setIfInBounds j true)) Q → wpOp P ops Q j (wpAny P .any ops Q fuel (listed.setIfInBounds j true)) a w := by
        intro hw h
        simp only [wpOp, ho, hw]
        exact .inl h
      have hub : ∀ {β' : Beta}, (∀ b c, β' b = some c → β b = some c ∨ H.length ≤ b) → ∀ i x, ins[i]? = some x → x.op.cls = 3 → ¬ Ld listed i → β' (H0.length + nal ins i) = none := by
        intro β' hb i x hx hc hL
        cases hβ : β' (H0.length + nal ins i) with
        | none => rfl
        | some c =>
          rcases hb _ c hβ with h | h
          · rw [W.unpl i x hx hc hL] at h; cases h
          · obtain ⟨zs, hz⟩ := cls3.1 hc
            have h1 := allocs_get hx hz
            have h2 := (List.getElem?_eq_some_iff.1 h1).1
            have h3 := W.hlen
            simp only [List.length_append] at h3
            omega
      rcases Nat.lt_trichotomy j m with hjm | hjm | hjm
      · rcases F.tr.step j y hjm hy with ⟨h3, hd1, hh1⟩ | ⟨h3, hw, hd1, hh1⟩ | ⟨h3, hw, hev⟩
        · -- a new block of zeros
          obtain ⟨zs, hz⟩ := cls3.1 h3
          have hgn : y.g = none := by
            have := List.all_eq_true.1 F.alk y (List.mem_of_getElem? hy)
            simpa [h3] using this
          have hw : Region.wanted o (yielded ops a.tmps) = true := wants_ok (E := Es j) (M := M) (β := β) (b := true) hg (fun t c d h => by rw [hgn] at h; cases h) (by rw [hgn]; rfl)
          refine run hw ?_
          have hb : H[H0.length + nal ins j]? = some (.cells true false zs) := W.zero F hn hy hjm hz
          have hβ := W.unpl j y hy h3 hn.un
          obtain ⟨cs, t, hwp, hinv⟩ := alloc_place (a := a) (o := o) (by rw [hz] at hop; exact hop) W.inv hb hβ
          refine hwp _ _ (IH _ _ (β.put (H0.length + nal ins j) (w.heap.size, 0, cs.size)) M H ?_)
          have g := Grew.alloc w (.cells cs t)
          refine W.next F hn hy hjm hd ?_ (Beta.le_put _ hβ) M.le_refl hinv ?_ (fun h => by omega) (fun _ => rfl) (Nat.le_refl _) ?_
          · have s := W.stp
            refine ⟨s.hl, fun b c h => Beta.le_put _ hβ b c (s.bl b c h), s.ml, ?_, s.mnew, s.os, s.tape, s.output, Nat.le_trans s.size g.size, ?_⟩
            · intro b c h
              by_cases e : b = H0.length + nal ins j
              · subst e
                rw [Beta.put_same] at h
                cases h
                exact .inr ⟨by omega, .inr s.size⟩
              · rw [Beta.put_other β _ e] at h
                exact s.bnew b c h
            · intro blk h1 h2
              rw [g.heap blk (Nat.lt_of_lt_of_le h1 s.size)]
              exact s.frame blk h1 h2
          · rw [hd1]
            exact VV_new (off := 0) (Beta.put_same _ _ _)
          · intro i x hx hc hL hij
            have hne : H0.length + nal ins i ≠ H0.length + nal ins j := by
              rcases Nat.lt_or_gt_of_ne hij with h | h
              · have := nal_lt h hx hc; omega
              · have := nal_lt h hy h3; omega
            rw [Beta.put_other β _ hne]
            exact W.unpl i x hx hc hL
        · -- not wanted
          have hw' := wants_ok hg (hguard (Nat.le_of_lt hjm)) hw
          refine skip hw' (IH _ _ β M H ?_)
          refine W.next F hn hy hjm hd W.stp β.le_refl M.le_refl W.inv (by rw [hd1]; exact VV_undef) ?_ (fun _ => rfl) (Nat.le_refl _) (fun i x hx hc hL _ => W.unpl i x hx hc hL)
          intro hc
          rw [hh1]
          exact W.heap F hn hy (Nat.le_of_lt hjm) (by omega) (by omega) (cls2_noload hc)
        · -- done
          have hw' := wants_ok hg (hguard (Nat.le_of_lt hjm)) hw
          refine run hw' ?_
          have hres : ∃ H', iev cx y.op (Es j) H = .ok (ds j, H') ∧ (y.op.cls = 2 → H' = Hs (j + 1)) ∧ (y.op.cls ≠ 2 → H' = H) := by
            by_cases h0 : y.op.cls = 0
            · have := cls_heap (by omega) h3 hev
              rw [this] at hev
              exact ⟨H, cls_free h0 hev H, fun h => by omega, fun _ => rfl⟩
            · by_cases hld : ∃ p n ag, y.op = .load p n ag
              · obtain ⟨p, n, ag, hld⟩ := hld
                refine ⟨H, ?_, fun h => absurd hld (cls2_noload h p n ag), fun _ => rfl⟩
                rw [hld] at hev ⊢
                simp only [iev] at hev ⊢
                split at hev
                · rename_i dp hdp
                  obtain ⟨e1, _⟩ := rofV hev
                  rw [W.load F hn hy hld hjm hw hdp, e1]
                  rfl
                · cases hev
              have hHj := W.heap F hn hy (Nat.le_of_lt hjm) h0 h3 (fun p n ag h => hld ⟨p, n, ag, h⟩)
              refine ⟨Hs (j + 1), by rw [hHj]; exact hev, fun _ => rfl, fun h => ?_⟩
              rw [hHj]
              exact cls_heap h h3 hev
          obtain ⟨H', hev', q2, q0⟩ := hres
          have hk := iev_ok (o := o) (a := a) (E := Es j) hcx hop W.inv (hHE (Nat.le_of_lt hjm))
          rw [hev'] at hk
          refine hk _ _ ?_
          intro v β' M' w' s i hv
          refine IH _ _ β' M' H' ?_
          exact W.next F hn hy hjm hd (W.stp.trans s) s.bl s.ml i hv q2 q0 s.hl (fun i x hx hc hL _ => hub (fun b c h => (s.bnew b c h).imp id fun h => h.1) i x hx hc hL)
      · -- the panic
        subst hjm
        obtain ⟨d, H', x, hx, h3, hw, hev, hQ⟩ := hp.pan hjl
        rw [hy] at hx
        cases hx
        have hw' := wants_ok hg (hguard (Nat.le_refl _)) hw
        refine run hw' ?_
        have hHj := W.heap F hn hy (Nat.le_refl _) (fun h0 => cls0_pan h0 hev) h3 (by
          intro p n ag e
          rw [e] at hev
          simp only [iev] at hev
          split at hev
          · rename_i dp _
            cases hl : ldp (Hs j) dp n ag <;> rw [hl] at hev <;> cases hev
          · cases hev)
        have hk := iev_ok (o := o) (a := a) (E := Es j) hcx hop W.inv (hHE (Nat.le_refl _))
        rw [hHj] at hk
        rw [hev] at hk
        refine hk _ _ ?_
        intro v β' M' w' s i hv
        rw [← hHj] at s
        refine hQ β' M' a w' v (W.stp.trans s) i ⟨W.tsz, ?_, W.dfr.mono s.ml s.bl⟩ hv
        intro t e hl
        obtain ⟨h1, h2⟩ := look_dropE hl
        exact (W.tm2 t e (fun i x hx hdx => absurd hdx (h1 x (List.mem_of_getElem? hx))) h2).mono s.ml s.bl
      · -- behind it
        have hml : m < ins.length := by omega
        have hx : ins[m]? = some ins[m] := by simp [hml]
        rcases (F.pair hjm hx hy).2 with h | ⟨_, _, h, _⟩
        · have := hn.up m h
          have := W.below m _ this hx
          omega
        · have hmv := h (F.stop hml)
          have hmvd : ∀ v, DI ops ins nt m E0 Hs ds β0 M0 H0 w0 df (listed.setIfInBounds j true) (a.put o.dst v) w β M H := W.mov F hn hy hjm hmv hd
          by_cases hw : Region.wanted o (yielded ops a.tmps) = true
          · refine run hw ?_
            obtain ⟨dst, g, op⟩ := y
            obtain ⟨odst, oop, ty, pos, after, guard⟩ := o
            cases op <;> simp only [IOp.isMov] at hmv
            case mov z =>
              simp only [matOp] at hop
              split at hop
              · exact IH _ _ β M H (hmvd _)
              · exact IH _ _ β M H (hmvd _)
              · cases hop
            all_goals cases hmv
          · refine skip (by simpa using hw) (IH _ _ β M H (hmvd _))

theorem fpsOk_mem {ins : List Ins} {E : Env} : ∀ {fp : List (Nat × Nat)}, fpsOk ins E fp = true → ∀ {i j : Nat}, (i, j) ∈ fp → fpOk ins E i j = true
  | [], _, i, j, h => by cases h
  | (a, b) :: r, h, i, j, hm => by
    simp only [fpsOk, Bool.and_eq_true] at h
    rcases List.mem_cons.1 hm with hm | hm
    · cases hm; exact h.1
    · exact fpsOk_mem h.2 hm

theorem wants_congr {g : Option (Nat × Bool)} {op : IOp} {d : Option Nat} {E F : Env} (h : ∀ t ∈ Ins.reads ⟨d, g, op⟩, look t F = look t E) : wants g F = wants g E := by
  cases g with
  | none => rfl
  | some p =>
    obtain ⟨t, b⟩ := p
    have := h t (by simp [Ins.reads])
    simp only [wants, this]

theorem env_late {base : Nat} (T : Tr cx ins m base Es Hs ds) {t i : Nat} : ∀ {j : Nat}, i ≤ j → j ≤ m → m ≤ ins.length → (∀ k x, i ≤ k → ins[k]? = some x → x.dst ≠ some t) → look t (Es j) = look t (Es i)
  | 0, h, _, _, _ => by have : i = 0 := by omega
                        subst this; rfl
  | j + 1, h, hm, hl, hn => by
    by_cases e : i = j + 1
    · subst e; rfl
    · have hj : j < ins.length := by omega
      have hx : ins[j]? = some ins[j] := by simp [hj]
      rw [T.env j _ (by omega) hx]
      have ih := env_late T (i := i) (j := j) (by omega) (by omega) hl hn
      have hne := hn j _ (by omega) hx
      cases hd : ins[j].dst with
      | none => simpa [putD] using ih
      | some u =>
        have hu : t ≠ u := fun e => hne (by rw [hd, e])
        simp only [putD]
        rw [look_put_other _ _ hu]
        exact ih

theorem late_look {base : Nat} (T : Tr cx ins m base Es Hs ds) (hl : m ≤ ins.length) (hm : m = ins.length) {i : Nat} {reads : List Nat} (h : (reads.all fun t => (ins.drop i).all fun z => z.dst != some t) = true) (hi : i ≤ m) : ∀ t ∈ reads, look t (Es m) = look t (Es i) := by
  intro t ht
  refine env_late T hi (Nat.le_refl _) hl ?_
  intro k x hk hx
  have h1 := List.all_eq_true.1 (List.all_eq_true.1 h t ht) x (by
    refine List.mem_of_getElem? (i := k - i) ?_
    rw [List.getElem?_drop]
    rw [show i + (k - i) = k by omega]
    exact hx)
  simpa using h1

theorem late_dst {base : Nat} {A : List Nat} (hp : pairsOk A pk fp 0 ins = true) (T : Tr cx ins m base Es Hs ds) (hl : m ≤ ins.length) (hm : m = ins.length) {j t : Nat} {y : Ins} (hy : ins[j]? = some y) (hd : y.dst = some t) (hj : j < m) : look t (Es m) = some (ds j) := by
  have h1 : look t (Es (j + 1)) = some (ds j) := by
    rw [T.env j y hj hy, hd]
    simp [putD, look_put_same]
  rw [← h1]
  refine env_late T hj (Nat.le_refl _) hl ?_
  intro k x hk hx hdx
  have := pairsOk_spec hp j k y x (by omega) hy hx
  simp only [pairOk, Bool.and_eq_true] at this
  have h2 := this.1
  rw [hd, hdx] at h2
  simp [noSame] at h2

/-- A REGION WHOSE ORDER IS OPEN. -/
theorem drw_ok (hcx : CxOK P cx) {E : Env} {a : Act} {w : World} {β : Beta} {M : Mem} {H : Heap} (hmx : P.follows .mixedOrders = true) (hm : drwOk P nt ops.toList ins pk fp = true) (hi : Inv β M H w) (ha : AR nt M β a E df) {id : Nat}
    (h : RiOk nt β M H w df (Q .normal) Q (runDrw cx pk (dropE ins E) ins 0 H.length E (H ++ allocsOf ins)))
    (hf : match runDrw cx pk (dropE ins E) ins 0 H.length E (H ++ allocsOf ins) with | .ok E' _ => fpsOk ins E' fp = true | .pan _ _ _ => fp = [] | .no => True) : (Code.region id ops true).wp P Q a w := by
  refine wp_region_any hmx ?_
  simp only [drwOk, Bool.and_eq_true] at hm
  obtain ⟨⟨⟨⟨h1, h2⟩, h3⟩, h4⟩, h5⟩ := hm
  have g := Grew.drew w
  have hlen : ops.size = ins.length := by simpa using (matAll_get h1).1
  have hne : runDrw cx pk (dropE ins E) ins 0 H.length E (H ++ allocsOf ins) ≠ .no := by
    intro e; rw [e] at h; exact h
  obtain ⟨m, Es, Hs, ds, q1, q2, q3, q4, q5⟩ := runDrw_tr ins 0 H.length E (H ++ allocsOf ins) hne
  generalize runDrw cx pk (dropE ins E) ins 0 H.length E (H ++ allocsOf ins) = r at h hne q5 hf
  have hstop : m < ins.length → pk.contains m = true := by
    intro hlt
    cases r with
    | ok E' H' => simp only [RunsTo] at q5; omega
    | pan d E' H' =>
      simp only [RunsTo] at q5
      obtain ⟨_, x, _, _, _, _, hpk⟩ := q5
      simpa using hpk
    | no => exact absurd rfl hne
  have hfps : ∀ i j, inFp fp i j = true → ∃ x y p n ag, ins[i]? = some x ∧ ins[j]? = some y ∧ x.op = .load p n ag ∧ y.op.cls = 2 ∧
      (j < m → i < m → wants x.g (Es i) = some true → ∀ d, p.ev (Es i) = some d → ldp (Hs (j + 1)) d n ag = ldp (Hs j) d n ag) := by
    intro i j hij
    cases r with
    | no => exact absurd rfl hne
    | pan d E' H' =>
      simp only at hf
      subst hf
      simp [inFp] at hij
    | ok E' H' =>
      simp only [RunsTo] at q5
      obtain ⟨hml, rfl, rfl⟩ := q5
      simp only at hf
      obtain ⟨pr, hmem, hpr⟩ := List.any_eq_true.1 hij
      obtain ⟨i', j'⟩ := pr
      simp only [Bool.and_eq_true] at hpr
      obtain rfl := Nat.eq_of_beq_eq_true hpr.1
      obtain rfl := Nat.eq_of_beq_eq_true hpr.2
      have hst := List.all_eq_true.1 h5 _ hmem
      have hdy := fpsOk_mem hf hmem
      simp only [fpStat] at hst
      unfold fpOk at hdy
      split at hst
      · rename_i x y hx hy
        simp only [Bool.and_eq_true] at hst
        obtain ⟨⟨⟨k1, k2⟩, k3⟩, k4⟩ := hst
        have k2 := Nat.eq_of_beq_eq_true k2
        split at k1
        · rename_i p n ag hop
          refine ⟨x, y, p, n, ag, hx, hy, hop, k2, ?_⟩
          intro hjm him hw d hd
          simp only [hx, hy] at hdy
          have rx := late_look q3 q4 hml k3 (Nat.le_of_lt him)
          have ry := late_look q3 q4 hml k4 (Nat.le_of_lt hjm)
          have wx : wants x.g (Es m) = wants x.g (Es i') := wants_congr (d := x.dst) (op := x.op) (fun t ht => rx t ht)
          have wy : wants y.g (Es m) = wants y.g (Es j') := wants_congr (d := y.dst) (op := y.op) (fun t ht => ry t ht)
          rw [wx, wy, hw] at hdy
          have hpe : p.ev (Es m) = p.ev (Es i') := ev_congr fun t ht => rx t (by simp [Ins.reads, hop, IOp.tmps, ht])
          rcases q3.step j' y hjm hy with ⟨hc3, _⟩ | ⟨_, _, _, hh⟩ | ⟨_, hw2, hev⟩
          · omega
          · rw [hh]
          · rw [hw2, hop] at hdy
            simp only [hpe, hd] at hdy
            split at hdy
            · rename_i hrp
              cases hrp
              rfl
            · rename_i b o hpt
              cases hpt
              refine ldp_keep hev (fun t ht => ry t (by simp [Ins.reads, ht])) ?_ hdy ag
              intro t ht
              exact late_dst h4 q3 q4 hml hy ht hjm
            · cases hdy
        · cases k1
      · cases hst
  have F : Fx P cx nt ops ins pk fp m Es Hs ds H := ⟨h1, h2, h3, h4, q2, q3, q4, hstop, hfps⟩
  have hp : Post cx ins nt m E Es Hs β M H w df Q := by
    refine ⟨?_, ?_⟩
    · intro hml β' M' a' w' s i r'
      cases r with
      | ok E' H' =>
        simp only [RunsTo] at q5
        obtain ⟨_, rfl, rfl⟩ := q5
        exact h β' M' a' w' s i r'
      | pan d E' H' =>
        simp only [RunsTo] at q5
        obtain ⟨_, x, hx, _⟩ := q5
        rw [hml] at hx
        simp at hx
      | no => exact absurd rfl hne
    · intro hlt
      cases r with
      | ok E' H' => simp only [RunsTo] at q5; omega
      | pan d E' H' =>
        simp only [RunsTo] at q5
        obtain ⟨rfl, x, hx, hx3, hxw, hxe, hpk⟩ := q5
        exact ⟨d, H', x, hx, hx3, hxw, hxe, fun β' M' a' w' v s i r' hv => h β' M' a' w' v s i r' hv⟩
      | no => exact absurd rfl hne
  refine drw_any hcx F q1 hp ops.size _ a _ β M (H ++ allocsOf ins) ?_ ?_
  · have hno : ∀ i, ¬ Ld (Array.replicate ops.size false) i := by
      intro i hi
      unfold Ld at hi
      by_cases hlt : i < ops.size
      · simp [hlt] at hi
      · simp [hlt] at hi
    have hsn : ∀ (l : Heap) (H : Heap), Inv β M H w.drew → Inv β M (H ++ l) w.drew := by
      intro l
      induction l with
      | nil => intro H h; simpa using h
      | cons B l ih =>
        intro H h
        have := ih (H ++ [B]) (h.snoc B)
        simpa using this
    have hig : Inv β M H w.drew := hi.grew g
    refine ⟨by simp, hsn _ _ hig, ?_, fun i h => absurd h (hno i), ⟨0, Nat.zero_le _, q2.symm, fun i x _ _ _ => ⟨fun h => absurd h (hno i), fun h => by omega⟩⟩, fun i x h => absurd h (hno i), ha.sz, ha.df, fun t i x _ _ h => absurd h (hno i), fun t d _ hl => ha.er t d hl, ?_, Nat.le_refl _⟩
    · have s := Step.grew H β M g
      exact ⟨by simp, s.bl, s.ml, fun b c h => .inl h, s.mnew, s.os, s.tape, s.output, s.size, s.frame⟩
    · intro i x _ _ _
      exact beta_none hi (by omega)
  · simp [List.countP_replicate]

end Go.Mini
