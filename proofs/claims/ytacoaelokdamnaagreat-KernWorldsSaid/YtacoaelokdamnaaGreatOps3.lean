/- The operations, part 3: more on values. -/
import Derived.Test.YtacoaelokdamnaaGreatOps2
set_option linter.all false
set_option linter.unusedSimpArgs false
set_option linter.unusedVariables false
namespace Go.Mini

section
variable {P : Program} {cx : Cx} {β : Beta} {M : Mem} {H : Heap} {w : World} {a : Act} {E : Env} {o : Oper}

theorem binV_notNil {op : BinOp} {x y v : Value} (h : binV op x y = some v) : x ≠ .nilIface ∧ vAgg x = false := by
  unfold binV at h
  split at h
  · exact ⟨by simp, rfl⟩
  · exact ⟨by simp, rfl⟩
  · cases h

theorem bin_ok {op : BinOp} {x y : Opd} (hm : matOp P o.op (.bin op x y) = true) (hi : Inv β M H w) (he : HE M β a E (IOp.tmps (.bin op x y))) : OpOk P o a w β M H (iev cx (.bin op x y) E H) := by
  obtain ⟨dst, op', ty, pos, after, guard⟩ := o
  simp only [iev]
  simp only [IOp.tmps] at he
  simp only [matOp] at hm
  split at hm
  · rename_i b' t x' y' t'
    simp only [Bool.and_eq_true, decide_eq_true_eq] at hm
    obtain ⟨⟨rfl, h2⟩, h3⟩ := hm
    split
    · rename_i u v hx hy
      split
      · rename_i r hr
        have e1 := (VV_s_inv (opd_sound h2 (he_l he) hx)).1
        have e2 := (VV_s_inv (opd_sound h3 (he_r he) hy)).1
        obtain ⟨h4, h5⟩ := binV_run (P := P) hr t w
        obtain ⟨h6, h7⟩ := binV_notNil hr
        exact ok_same (w' := w) hi (by simp [execOp, e1, e2, h4, run_eqGuard_atom h6 h7]) (Grew.refl w) (VV_s h5 M β)
      · trivial
    · trivial
  · cases hm

theorem un_ok {u : UnOp} {x : Opd} (hm : matOp P o.op (.un u x) = true) (hi : Inv β M H w) (he : HE M β a E (IOp.tmps (.un u x))) : OpOk P o a w β M H (iev cx (.un u x) E H) := by
  obtain ⟨dst, op', ty, pos, after, guard⟩ := o
  simp only [iev]
  simp only [IOp.tmps] at he
  simp only [matOp] at hm
  split at hm
  · rename_i u' t y
    simp only [Bool.and_eq_true, decide_eq_true_eq] at hm
    obtain ⟨rfl, h2⟩ := hm
    split
    · rename_i b hx
      have e1 := (VV_s_inv (opd_sound h2 he hx)).1
      exact ok_same (w' := w) hi (by simp [execOp, e1, Op.unary]) (Grew.refl w) VV_bool
    · rename_i k n hx
      have e1 := (VV_s_inv (opd_sound h2 he hx)).1
      exact ok_same (w' := w) hi (by simp [execOp, e1, Op.unary, Op.intArith]) (Grew.refl w) VV_int
    · rename_i k n hx
      have e1 := (VV_s_inv (opd_sound h2 he hx)).1
      exact ok_same (w' := w) hi (by simp [execOp, e1, Op.unary, Op.intBits]) (Grew.refl w) VV_int
    · trivial
  · cases hm

theorem cvi_ok {k : IntKind} {x : Opd} (hm : matOp P o.op (.cvi k x) = true) (hi : Inv β M H w) (he : HE M β a E (IOp.tmps (.cvi k x))) : OpOk P o a w β M H (iev cx (.cvi k x) E H) := by
  obtain ⟨dst, op', ty, pos, after, guard⟩ := o
  simp only [iev]
  simp only [IOp.tmps] at he
  simp only [matOp] at hm
  split at hm
  · rename_i s d y
    simp only [Bool.and_eq_true] at hm
    obtain ⟨h2, h3⟩ := hm
    split at h3
    · rename_i sd k' h4 h5
      have h3 : k' = k := by simpa using h3
      subst h3
      split
      · rename_i kk n hx
        have e1 := (VV_s_inv (opd_sound h2 he hx)).1
        exact ok_same (w' := w) hi (by simp [execOp, e1, convert, run_underlying h4, run_underlying h5, Conv.intToInt]) (Grew.refl w) VV_int
      · trivial
    · cases h3
  · cases hm

theorem VV_ptr_add {b off n : Nat} {v : Value} (h : VV M β (.ptr b off) v) : ∃ ad : Addr, v = .pointer (some ad) ∧ VV M β (.ptr b (off + n)) (.pointer (some (ad.add n))) := by
  obtain ⟨blk, sh, C, h1, h2⟩ := VV_ptr h
  refine ⟨_, h1, ?_⟩
  rw [addr_add, Nat.add_assoc]
  exact VV_new h2
theorem VV_rp_mk {bo : Bool} {x : D} {off blk o' : Nat} {bo' : Bool} {cs : Array Value} (h2 : M blk = some (bo', cs)) (h3 : bo' = true → bo = true) (h4 : o' + x.flat.length ≤ cs.size)
    (h5 : VF M x nob ((cs.toList.drop o').take x.flat.length)) : VV M β (.rp bo x off) (.pointer (some ⟨blk, o' + off, none⟩)) := by
  refine ⟨rfl, ?_⟩
  simp only [VF, Value.cells]
  exact ⟨blk, o', bo', cs, _, rfl, h2, h3, h4, rfl, h5⟩
theorem VV_rp_add {bo : Bool} {x : D} {off n : Nat} {v : Value} (h : VV M β (.rp bo x off) v) : ∃ ad : Addr, v = .pointer (some ad) ∧ VV M β (.rp bo x (off + n)) (.pointer (some (ad.add n))) := by
  obtain ⟨blk, o', bo', cs, h1, h2, h3, h4, h5⟩ := VV_rp h
  refine ⟨_, h1, ?_⟩
  rw [addr_add, Nat.add_assoc]
  exact VV_rp_mk h2 h3 h4 h5

theorem fad_ok {p : Opd} {off : Nat} (hm : matOp P o.op (.fad p off) = true) (hi : Inv β M H w) (he : HE M β a E (IOp.tmps (.fad p off))) : OpOk P o a w β M H (iev cx (.fad p off) E H) := by
  obtain ⟨dst, op', ty, pos, after, guard⟩ := o
  simp only [iev]
  simp only [IOp.tmps] at he
  simp only [matOp] at hm
  split at hm
  · rename_i t x f
    simp only [Bool.and_eq_true] at hm
    obtain ⟨h2, h3⟩ := hm
    split at h3
    · rename_i fields hu
      split at h3
      · rename_i fl hfl
        simp only [Bool.and_eq_true] at h3
        obtain ⟨h4, h5⟩ := h3
        obtain rfl := Nat.eq_of_beq_eq_true h4
        split at h5
        · rename_i n b' ag ht
          have hn := Nat.le_of_ble_eq_true h5
          have hn0 : ¬ n = 0 := by omega
          split
          · rename_i b oo hx
            obtain ⟨ad, h6, h7⟩ := VV_ptr_add (n := fl.offset) (opd_sound h2 he hx)
            exact ok_same (w' := w) hi (by simp [execOp, Instr.fieldAt, run_underlying hu, hfl, Instr.sureAddr, h6, fieldPlace, run_sizeOf' ht, hn0]) (Grew.refl w) h7
          · rename_i bo y oo hx
            obtain ⟨ad, h6, h7⟩ := VV_rp_add (n := fl.offset) (opd_sound h2 he hx)
            exact ok_same (w' := w) hi (by simp [execOp, Instr.fieldAt, run_underlying hu, hfl, Instr.sureAddr, h6, fieldPlace, run_sizeOf' ht, hn0]) (Grew.refl w) h7
          · trivial
        · cases h5
      · cases h3
    · cases h3
  · cases hm

theorem idx_spec {d : D} {n : Nat} {v : Value} (h : idx d = some n) (hv : VV M β d v) : ∃ k i, v = .int k i ∧ 0 ≤ i ∧ i.toNat = n := by
  unfold idx at h
  split at h
  · rename_i k i
    split at h
    · rename_i hi
      cases h
      exact ⟨k, i, (VV_s_inv hv).1, by simpa using hi, rfl⟩
    · cases h
  · cases h

theorem VV_sl {b off n esz : Nat} {ag : Bool} {cp : Option Nat} {v : Value} (h : VV M β (.sl b off n esz ag cp) v) : ∃ blk sh C c, v = .slice (some ⟨blk, sh + off, none⟩) n c ∧ β b = some (blk, sh, C) ∧ sh + off + c * esz ≤ C ∧
      (cp = none → sh + off + c * esz = C) ∧ (∀ k, cp = some k → c = k) ∧ n ≤ c ∧ 0 < esz := by
  have := VV_nonagg h rfl
  simp only [VF, List.cons.injEq, and_true] at this
  exact this
theorem VV_lit {k : LK} {xs : List D} {v : Value} (h : VV M β (.lit k xs) v) : ∃ ad c, v = .slice ad xs.length c ∧ xs.length ≤ c ∧ LKok k ad xs.length c ∧
      (xs = [] ∨ ∃ blk off e bo cs, ad = some ⟨blk, off, none⟩ ∧ M blk = some (bo, cs) ∧ (bo = true → k = .bor) ∧ off + xs.length * e ≤ cs.size ∧ VE M xs nob e (cs.toList.drop off)) := by
  have := VV_nonagg h rfl
  simp only [VF, List.cons.injEq, and_true] at this
  obtain ⟨a, n, c, h1, h2, h3, h4, h5⟩ := this
  subst h2
  exact ⟨a, c, h1, h3, h4, h5⟩

theorem ixa_ok {x i : Opd} {e : Nat} {arr : Option Nat} (hm : matOp P o.op (.ixa x i e arr) = true) (hi : Inv β M H w) (he : HE M β a E (IOp.tmps (.ixa x i e arr))) : OpOk P o a w β M H (iev cx (.ixa x i e arr) E H) := by
  obtain ⟨dst, op', ty, pos, after, guard⟩ := o
  simp only [iev]
  simp only [IOp.tmps] at he
  simp only [matOp] at hm
  split at hm
  · rename_i t y j
    simp only [Bool.and_eq_true] at hm
    obtain ⟨⟨h2, h3⟩, h4⟩ := hm
    split
    · rename_i d jd hx hj
      have hv := opd_sound h2 (he_l he) hx
      split
      · trivial
      · rename_i n hn
        obtain ⟨k, ii, hjv, h0, hin⟩ := idx_spec hn (opd_sound h3 (he_r he) hj)
        split
        · rename_i N
          split at h4
          · rename_i heq _; cases heq
          · rename_i N0 N' el heq hu
            cases heq
            simp only [Bool.and_eq_true] at h4
            obtain ⟨h5, h6⟩ := h4
            obtain rfl := Nat.eq_of_beq_eq_true h5
            split at h6
            · rename_i m b' ag ht
              obtain rfl := Nat.eq_of_beq_eq_true h6
              split
              · rename_i b oo hb
                have hlt := Nat.le_of_ble_eq_true hb
                obtain ⟨ad, h7, h8⟩ := VV_ptr_add (n := n * m) hv
                have hrange : 0 ≤ ii ∧ ii < (N : Int) := ⟨h0, by omega⟩
                exact ok_same (w' := w) hi (by simp [execOp, Instr.indexAt, hjv, asIntOf, run_underlying hu, Instr.sureAddr, h7, hrange, run_sizeOf' ht, hin]) (Grew.refl w) h8
              · rename_i bo y' oo hb
                have hlt := Nat.le_of_ble_eq_true hb
                obtain ⟨ad, h7, h8⟩ := VV_rp_add (n := n * m) hv
                have hrange : 0 ≤ ii ∧ ii < (N : Int) := ⟨h0, by omega⟩
                exact ok_same (w' := w) hi (by simp [execOp, Instr.indexAt, hjv, asIntOf, run_underlying hu, Instr.sureAddr, h7, hrange, run_sizeOf' ht, hin]) (Grew.refl w) h8
              · trivial
            · cases h6
          · cases h4
        · split at h4
          · rename_i el _ hu
            split at h4
            · rename_i m b' ag ht
              obtain rfl := Nat.eq_of_beq_eq_true h4
              split
              · rename_i kk xs
                split
                · rename_i y' hy
                  split
                  · rename_i hfl
                    have hfl := Nat.eq_of_beq_eq_true hfl
                    obtain ⟨ad, c, h7, h8, h9, h10⟩ := VV_lit hv
                    have hlt : n < xs.length := (List.getElem?_eq_some_iff.1 hy).1
                    rcases h10 with h10 | ⟨blk, off, e', bo, cs, rfl, hM, hbo, hsz, hve⟩
                    · subst h10; simp at hlt
                    · obtain ⟨h11, h12⟩ := VE_get hve hy
                      obtain rfl : e' = m := h11.symm.trans hfl
                      have hrange : 0 ≤ ii ∧ ii < (xs.length : Int) := ⟨h0, by omega⟩
                      refine ok_same (w' := w) (v := .pointer (some ⟨blk, off + n * e', none⟩)) hi (by simp [execOp, Instr.indexAt, hjv, asIntOf, run_underlying hu, h7, hrange, run_sizeOf' ht, hin, addr_add]) (Grew.refl w) ?_
                      have hle : (n + 1) * e' ≤ xs.length * e' := Nat.mul_le_mul_right _ hlt
                      rw [Nat.succ_mul] at hle
                      refine VV_rp_mk (off := 0) (o' := off + n * e') hM (fun hb => by simp [hbo hb]) (by omega) ?_
                      rw [hfl]
                      rwa [List.drop_drop] at h12
                  · trivial
                · trivial
              · rename_i b off mm esz ag' cp
                split
                · rename_i hb
                  simp only [Bool.and_eq_true] at hb
                  obtain ⟨hb1, hb2⟩ := hb
                  obtain rfl := Nat.eq_of_beq_eq_true hb2
                  have hlt := Nat.le_of_ble_eq_true hb1
                  obtain ⟨blk, sh, C, c, h7, h8, h9⟩ := VV_sl hv
                  have hrange : 0 ≤ ii ∧ ii < (mm : Int) := ⟨h0, by omega⟩
                  refine ok_same (w' := w) (v := .pointer (some ⟨blk, sh + (off + n * m), none⟩)) hi (by simp [execOp, Instr.indexAt, hjv, asIntOf, run_underlying hu, h7, hrange, run_sizeOf' ht, hin, addr_add, Nat.add_assoc]) (Grew.refl w) ?_
                  exact VV_new h8
                · trivial
              · trivial
            · cases h4
          · rename_i heq _; cases heq
          · cases h4
    · trivial
  · cases hm

theorem asVal_agg {xs : List D} {n : Nat} {ag : Bool} {d : D} (h : asVal xs n ag = some d) (h1 : ag = false → n = 1) : xs.length = n := by
  unfold asVal at h
  cases ag with
  | true =>
    simp only [] at h
    split at h
    · rename_i hb; exact Nat.eq_of_beq_eq_true hb
    · cases h
  | false =>
    obtain rfl := h1 rfl
    simp only [] at h
    split at h
    · rfl
    · cases h

/-- A part of a struct's value. -/
theorem run_part {t : TypeId} {n b oo : Nat} {ag : Bool} {cs : Array Value} {xs : List D} {d : D} (ht : tsz P t = some (n, b, ag)) (h1 : ag = false → n = 1) (hv : VE M xs β 1 cs.toList) (hl : cs.size = xs.length)
    (hd : asVal ((xs.drop oo).take n) n ag = some d) : ∃ v, (part t cs oo).run P w = .ok v w ∧ VV M β d v := by
  have hlen := asVal_agg hd h1
  rw [List.length_take, List.length_drop] at hlen
  by_cases hn : n = 0
  · subst hn
    cases ag with
    | false => cases h1 rfl
    | true =>
      simp only [List.take_zero, asVal] at hd
      simp at hd
      subst hd
      exact ⟨.agg (cs.extract oo oo), by simp [part, run_isAgg' ht, run_sizeOf' ht], VV_agg (by simp; omega) VE_nil⟩
  · have hve := VE_drop oo hv (by omega)
    rw [Nat.mul_one] at hve
    have hve := VE_take n hve
    unfold asVal at hd
    cases ag with
    | true =>
      simp only [] at hd
      split at hd
      · cases hd
        refine ⟨.agg (cs.extract oo (oo + n)), by simp [part, run_isAgg' ht, run_sizeOf' ht], VV_agg (by simp; omega) ?_⟩
        have h2 := VE_prefix (n := n) (by rw [List.length_take]; omega) hve
        have h3 : (cs.extract oo (oo + n)).toList = (cs.toList.drop oo).take n := by simp [List.extract_eq_take_drop]
        rw [h3]
        exact h2
      · cases hd
    | false =>
      obtain rfl := h1 rfl
      simp only [] at hd
      split at hd
      · rename_i x hx1
        split at hd
        · rename_i hx
          cases hd
          rw [hx1] at hve
          obtain ⟨v, r, h2, _, h3, _⟩ := VE_one_cons.1 hve
          have hv0 : cs[oo]? = some v := by
            have : (cs.toList.drop oo)[0]? = some v := by rw [h2]; rfl
            rw [List.getElem?_drop] at this
            simpa using this
          exact ⟨v, by simp [part, run_isAgg' ht, hv0], VV_cell h3 hx⟩
        · cases hd
      · cases hd

theorem VV_agg_inv {xs : List D} {v : Value} (h : VV M β (.agg xs) v) : ∃ cs, v = .agg cs ∧ cs.size = xs.length ∧ VE M xs β 1 cs.toList := by
  obtain ⟨h1, h2⟩ := h
  cases v <;> simp only [vAgg, D.isAgg, Bool.false_eq_true] at h1
  rename_i cs
  simp only [VF, Value.cells] at h2
  exact ⟨cs, rfl, by simpa using h2.1, h2.2⟩
theorem VV_tup_inv {xs : List D} {v : Value} (h : VV M β (.tup xs) v) : ∃ vs, v = .tuple vs ∧ VT M xs β vs.toList := by
  have := VV_nonagg h rfl
  simp only [VF, List.cons.injEq, and_true] at this
  exact this

theorem agOr {ag : Bool} {n : Nat} (h : ag = true ∨ Nat.beq n 1 = true) (h' : ag = false) : n = 1 := by
  rcases h with h | h
  · rw [h] at h'; cases h'
  · exact Nat.eq_of_beq_eq_true h

theorem fld_ok {x : Opd} {off n : Nat} {ag : Bool} (hm : matOp P o.op (.fld x off n ag) = true) (hi : Inv β M H w) (he : HE M β a E (IOp.tmps (.fld x off n ag))) : OpOk P o a w β M H (iev cx (.fld x off n ag) E H) := by
  obtain ⟨dst, op', ty, pos, after, guard⟩ := o
  simp only [iev]
  simp only [IOp.tmps] at he
  simp only [matOp] at hm
  split at hm
  · rename_i t y f
    simp only [Bool.and_eq_true] at hm
    obtain ⟨h2, h3⟩ := hm
    split at h3
    · rename_i fields hu
      split at h3
      · rename_i fl hfl
        simp only [Bool.and_eq_true] at h3
        obtain ⟨h4, h5⟩ := h3
        obtain rfl := Nat.eq_of_beq_eq_true h4
        split at h5
        · rename_i m b' a' ht
          simp only [Bool.and_eq_true, Bool.or_eq_true, beq_iff_eq] at h5
          obtain ⟨⟨h6, rfl⟩, h7⟩ := h5
          obtain rfl := Nat.eq_of_beq_eq_true h6
          split
          · rename_i xs hx
            obtain ⟨cs, h8, h9, h10⟩ := VV_agg_inv (opd_sound h2 he hx)
            refine ofV_ok fun d hd => ?_
            obtain ⟨v, h11, h12⟩ := run_part (P := P) (w := w) ht (agOr h7) h10 h9 hd
            exact ok_same (w' := w) hi (by simp [execOp, Instr.field, run_underlying hu, hfl, h8, asAgg, h11]) (Grew.refl w) h12
          · trivial
        · cases h5
      · cases h3
    · cases h3
  · cases hm

theorem VT_get : ∀ {xs : List D} {l : List Value} {i : Nat} {x : D}, VT M xs β l → xs[i]? = some x → ∃ v, l[i]? = some v ∧ VV M β x v
  | x :: xs, l, 0, y, h, hi => by
    simp only [VT] at h
    obtain ⟨v, r, rfl, h2, h3, _⟩ := h
    simp at hi
    subst hi
    exact ⟨v, rfl, h2, h3⟩
  | x :: xs, l, i + 1, y, h, hi => by
    simp only [VT] at h
    obtain ⟨v, r, rfl, _, _, h4⟩ := h
    obtain ⟨u, h5, h6⟩ := VT_get (i := i) h4 (by simpa using hi)
    exact ⟨u, by simpa using h5, h6⟩
  | [], _, _, _, _, hi => by simp at hi

theorem ext_ok {x : Opd} {i : Nat} (hm : matOp P o.op (.ext x i) = true) (hi : Inv β M H w) (he : HE M β a E (IOp.tmps (.ext x i))) : OpOk P o a w β M H (iev cx (.ext x i) E H) := by
  obtain ⟨dst, op', ty, pos, after, guard⟩ := o
  simp only [iev]
  simp only [IOp.tmps] at he
  simp only [matOp] at hm
  split at hm
  · rename_i y j
    simp only [Bool.and_eq_true] at hm
    obtain ⟨h2, h3⟩ := hm
    obtain rfl := Nat.eq_of_beq_eq_true h3
    split
    · rename_i xs hx
      obtain ⟨vs, h4, h5⟩ := VV_tup_inv (opd_sound h2 he hx)
      refine ofV_ok fun d hd => ?_
      obtain ⟨v, h6, h7⟩ := VT_get h5 hd
      have h6 : vs[i]? = some v := by simpa using h6
      exact ok_same (w' := w) hi (by simp [execOp, h4, Instr.extract, h6]) (Grew.refl w) h7
    · trivial
  · cases hm

theorem opds_sound : ∀ {xs : List Operand} {ys : List Opd} {ds : List D}, matOpds xs ys = true → HE M β a E (ys.flatMap Opd.tmps) → evs ys E = some ds → VT M ds β (xs.map a.eval)
  | [], [], ds, _, _, h => by simp only [evs, Option.some.injEq] at h; subst h; simp [VT]
  | x :: xs, y :: ys, ds, hm, he, h => by
    simp only [matOpds, Bool.and_eq_true] at hm
    simp only [List.flatMap_cons] at he
    simp only [evs] at h
    split at h
    · cases h
    · rename_i d hd
      split at h
      · cases h
      · rename_i ds' hds
        cases h
        have h1 := opd_sound hm.1 (he_l he) hd
        simp only [VT, List.map_cons]
        exact ⟨_, _, rfl, h1.1, h1.2, opds_sound hm.2 (he_r he) hds⟩
  | [], _ :: _, _, hm, _, _ => by simp [matOpds] at hm
  | _ :: _, [], _, hm, _, _ => by simp [matOpds] at hm

theorem matOpds_one {xs : Array Operand} {y : Opd} (h : matOpds xs.toList [y] = true) : ∃ x, xs = #[x] ∧ matOpd x y = true := by
  obtain ⟨l⟩ := xs
  cases l with
  | nil => simp [matOpds] at h
  | cons x r =>
    cases r with
    | nil => exact ⟨x, rfl, by simpa [matOpds] using h⟩
    | cons _ _ => simp [matOpds] at h
theorem matOpds_two {xs : Array Operand} {y z : Opd} (h : matOpds xs.toList [y, z] = true) : ∃ x x', xs = #[x, x'] ∧ matOpd x y = true ∧ matOpd x' z = true := by
  obtain ⟨l⟩ := xs
  rcases l with _ | ⟨x, _ | ⟨x', _ | ⟨_, _⟩⟩⟩
  · simp [matOpds] at h
  · simp [matOpds] at h
  · exact ⟨x, x', rfl, by simpa [matOpds] using h⟩
  · simp [matOpds] at h

theorem slen_spec {d : D} {n : Nat} {v : Value} (h : slen d = some n) (hv : VV M β d v) : ∃ ad c, v = .slice ad n c ∧ n ≤ c := by
  unfold slen at h
  split at h
  · cases h
    obtain ⟨ad, c, h1, h2, _⟩ := VV_lit hv
    exact ⟨ad, c, h1, h2⟩
  · cases h
    obtain ⟨blk, sh, C, c, h1, _, _, _, _, h2, _⟩ := VV_sl hv
    exact ⟨_, c, h1, h2⟩
  · cases h

theorem len_ok {x : Opd} (hm : matOp P o.op (.len x) = true) (hi : Inv β M H w) (he : HE M β a E (IOp.tmps (.len x))) : OpOk P o a w β M H (iev cx (.len x) E H) := by
  obtain ⟨dst, op', ty, pos, after, guard⟩ := o
  simp only [iev]
  simp only [IOp.tmps] at he
  simp only [matOp] at hm
  split at hm
  · rename_i c
    obtain ⟨callee, args, argTypes⟩ := c
    simp only [Bool.and_eq_true] at hm
    obtain ⟨⟨h1, h2⟩, h3⟩ := hm
    obtain ⟨y, rfl, h2'⟩ := matOpds_one h2
    split at h1
    · split
      · rename_i d hd
        split
        · rename_i n hn
          have hv := opd_sound h2' he hd
          split at h3
          · rename_i t ht
            obtain ⟨ad, c, h4, _⟩ := slen_spec hn hv
            split at h3
            · rename_i el hu
              exact ok_same (w' := w) (v := .int .i64 n) hi (by simp [execOp, resolve, invoke, builtin, Builtin.len_, ht, run_underlying hu, h4, goInt]) (Grew.refl w) VV_int
            · cases h3
          · cases h3
        · trivial
      · trivial
    · cases h1
  · cases hm

theorem sln_ok {x : Opd} (hm : matOp P o.op (.sln x) = true) (hi : Inv β M H w) (he : HE M β a E (IOp.tmps (.sln x))) : OpOk P o a w β M H (iev cx (.sln x) E H) := by
  obtain ⟨dst, op', ty, pos, after, guard⟩ := o
  simp only [iev]
  simp only [IOp.tmps] at he
  simp only [matOp] at hm
  split at hm
  · rename_i c
    obtain ⟨callee, args, argTypes⟩ := c
    simp only [Bool.and_eq_true] at hm
    obtain ⟨⟨h1, h2⟩, h3⟩ := hm
    obtain ⟨y, rfl, h2'⟩ := matOpds_one h2
    split at h1
    · split
      · rename_i b hd
        have h4 := (VV_s_inv (opd_sound h2' he hd)).1
        split at h3
        · rename_i t ht
          split at h3
          · rename_i hu
            exact ok_same (w' := w) (v := .int .i64 b.size) hi (by simp [execOp, resolve, invoke, builtin, Builtin.len_, ht, run_underlying hu, h4, goInt]) (Grew.refl w) VV_int
          · cases h3
        · cases h3
      · trivial
    · cases h1
  · cases hm

theorem mn_ok {x y : Opd} (hm : matOp P o.op (.mn x y) = true) (hi : Inv β M H w) (he : HE M β a E (IOp.tmps (.mn x y))) : OpOk P o a w β M H (iev cx (.mn x y) E H) := by
  obtain ⟨dst, op', ty, pos, after, guard⟩ := o
  simp only [iev]
  simp only [IOp.tmps] at he
  simp only [matOp] at hm
  split at hm
  · rename_i c
    obtain ⟨callee, args, argTypes⟩ := c
    simp only [Bool.and_eq_true] at hm
    obtain ⟨h1, h2⟩ := hm
    obtain ⟨x', y', rfl, h2, h3⟩ := matOpds_two h2
    split at h1
    · split
      · rename_i k m k' n hx hy
        have e1 := (VV_s_inv (opd_sound h2 (he_l he) hx)).1
        have e2 := (VV_s_inv (opd_sound h3 (he_r he) hy)).1
        exact ok_same (w' := w) (v := .int k (if n < m then n else m)) hi (by simp [execOp, resolve, invoke, builtin, Builtin.min_, Builtin.min2, e1, e2]) (Grew.refl w) VV_int
      · trivial
    · cases h1
  · cases hm

theorem mx_ok {x y : Opd} (hm : matOp P o.op (.mx x y) = true) (hi : Inv β M H w) (he : HE M β a E (IOp.tmps (.mx x y))) : OpOk P o a w β M H (iev cx (.mx x y) E H) := by
  obtain ⟨dst, op', ty, pos, after, guard⟩ := o
  simp only [iev]
  simp only [IOp.tmps] at he
  simp only [matOp] at hm
  split at hm
  · rename_i c
    obtain ⟨callee, args, argTypes⟩ := c
    simp only [Bool.and_eq_true] at hm
    obtain ⟨h1, h2⟩ := hm
    obtain ⟨x', y', rfl, h2, h3⟩ := matOpds_two h2
    split at h1
    · split
      · rename_i k m k' n hx hy
        have e1 := (VV_s_inv (opd_sound h2 (he_l he) hx)).1
        have e2 := (VV_s_inv (opd_sound h3 (he_r he) hy)).1
        exact ok_same (w' := w) (v := .int k (if n > m then n else m)) hi (by simp [execOp, resolve, invoke, builtin, Builtin.max_, Builtin.max2, e1, e2]) (Grew.refl w) VV_int
      · trivial
    · cases h1
  · cases hm

theorem VV_ifc_inv {t : TypeId} {x : D} {v : Value} (h : VV M β (.ifc t x) v) : ∃ u, v = .iface t u ∧ VV M β x u := by
  have := VV_nonagg h rfl
  simp only [VF, List.cons.injEq, and_true] at this
  obtain ⟨u, h1, h2, h3⟩ := this
  exact ⟨u, h1, h2, h3⟩
theorem VV_ifc {t : TypeId} {x : D} {u : Value} (h : VV M β x u) : VV M β (.ifc t x) (.iface t u) := by
  refine ⟨rfl, ?_⟩
  simp only [VF, Value.cells]
  exact ⟨u, rfl, h.1, h.2⟩

theorem pan_ok {x : Opd} (hm : matOp P o.op (.pan x) = true) (hi : Inv β M H w) (he : HE M β a E (IOp.tmps (.pan x))) : OpOk P o a w β M H (iev cx (.pan x) E H) := by
  obtain ⟨dst, op', ty, pos, after, guard⟩ := o
  simp only [iev]
  simp only [IOp.tmps] at he
  simp only [matOp] at hm
  split
  · rename_i t d hd
    split at hm
    · rename_i y
      have hv := opd_sound hm he hd
      obtain ⟨u, h1, h2⟩ := VV_ifc_inv hv
      intro next Q h
      have hr : (execOp a.eval (⟨dst, .panic y, ty, pos, after, guard⟩ : Oper)).run P w = .halt (.panic (.iface t u)) w := by simp [execOp, h1, Instr.panic, goPanic]
      unfold Oper.wp
      rw [hr]
      exact h (.iface t u) β M w (Step.refl H β M w) hi (VV_ifc h2)
    · rename_i c
      obtain ⟨callee, args, argTypes⟩ := c
      simp only [Bool.and_eq_true] at hm
      obtain ⟨h1, h2⟩ := hm
      obtain ⟨y, rfl, h2'⟩ := matOpds_one h2
      split at h1
      · rename_i hcal
          subst hcal
        have hv := opd_sound h2' he hd
        obtain ⟨u, h3, h4⟩ := VV_ifc_inv hv
        intro next Q h
        have hr : (execOp a.eval (⟨dst, .call ⟨.builtin .panic, #[y], argTypes⟩, ty, pos, after, guard⟩ : Oper)).run P w = .halt (.panic (.iface t u)) w := by
          simp [execOp, resolve, invoke, builtin, h3, Instr.panic, goPanic]
        unfold Oper.wp
        rw [hr]
        exact h (.iface t u) β M w (Step.refl H β M w) hi (VV_ifc h4)
      · cases h1
    · cases hm
  · trivial

theorem mki_ok {t : TypeId} {x : Opd} (hm : matOp P o.op (.mki t x) = true) (hi : Inv β M H w) (he : HE M β a E (IOp.tmps (.mki t x))) : OpOk P o a w β M H (iev cx (.mki t x) E H) := by
  obtain ⟨dst, op', ty, pos, after, guard⟩ := o
  simp only [iev]
  simp only [IOp.tmps] at he
  simp only [matOp] at hm
  split at hm
  · rename_i u y
    simp only [Bool.and_eq_true] at hm
    obtain ⟨⟨h1, h2⟩, h3⟩ := hm
    obtain rfl := Nat.eq_of_beq_eq_true h1
    split
    · rename_i d hd
      have hv := opd_sound h2 he hd
      refine ok_same (w' := w) hi ?_ (Grew.refl w) (VV_ifc hv)
      split at h3
      · cases h3
      · rename_i td hne hu
        have : (underlying t).run P w = .ok td w := run_underlying hu w
        simp only [execOp, Instr.makeInterface, Sem.run_bind, this, Result.andThen_ok]
        cases td <;> simp_all
      · cases h3
    · trivial
  · cases hm

theorem VV_fn {f : FuncId} {first cap : List D} {vs ws : Array Value} (h1 : VT M first β vs.toList) (h2 : VT M cap β ws.toList) : VV M β (.fn f first cap) (.func (.func f) vs ws) := by
  refine ⟨rfl, ?_⟩
  simp only [VF, Value.cells]
  exact ⟨vs, ws, rfl, h1, h2⟩

theorem mkf_ok {f : FuncId} {first cap : List Opd} (hm : matOp P o.op (.mkf f first cap) = true) (hi : Inv β M H w) (he : HE M β a E (IOp.tmps (.mkf f first cap))) : OpOk P o a w β M H (iev cx (.mkf f first cap) E H) := by
  obtain ⟨dst, op', ty, pos, after, guard⟩ := o
  simp only [iev]
  simp only [IOp.tmps] at he
  simp only [matOp] at hm
  split at hm
  · rename_i fn as cs
    simp only [Bool.and_eq_true] at hm
    obtain ⟨⟨h1, h2⟩, h3⟩ := hm
    split at h1
    · rename_i g
      obtain rfl := Nat.eq_of_beq_eq_true h1
      split
      · rename_i d1 d2 hd1 hd2
        refine ok_same (w' := w) (v := .func (.func f) (as.map a.eval) (cs.map a.eval)) hi (by simp [execOp, Instr.makeFunc]) (Grew.refl w) (VV_fn ?_ ?_)
        · simpa using opds_sound h2 (he_l he) hd1
        · simpa using opds_sound h3 (he_r he) hd2
      · trivial
    · cases h1
  · cases hm

/-- '==' or '!=' of pointers of which one is nil. -/
theorem run_eq_ptr {b : BinOp} {neg : Bool} (hb : (match b with | .eql => !neg | .neq => neg | _ => false) = true) {t el : TypeId} (hu : P.underlying t = some (.pointer el)) (xo yo : Operand) (p q : Option Addr) (hpq : p = none ∨ q = none) (w : World) :
    (do eqGuard b t xo yo (.pointer p) (.pointer q); binOp b t (.pointer p) (.pointer q) : Sem Value).run P w = .ok (.bool (neg != (p.isNone && q.isNone))) w := by
  have h0 : ∀ d, (Op.equalIn (d + 1) t (.pointer p) (.pointer q)).run P w = .ok (p.isNone && q.isNone) w := by
    intro d
    simp only [Op.equalIn, Sem.run_bind, run_underlying hu, Result.andThen_ok]
    rcases hpq with rfl | rfl
    · rfl
    · cases p <;> rfl
  have h1 : (Op.equal t (.pointer p) (.pointer q)).run P w = .ok (p.isNone && q.isNone) w := h0 9999
  have h2 : (eqGuard b t xo yo (.pointer p) (.pointer q)).run P w = .ok () w := run_eqGuard_atom (by simp) rfl w
  cases b <;> simp only [Bool.false_eq_true] at hb
  · have hn : neg = false := by simpa using hb
    subst hn
    simp only [Sem.run_bind, h2, Result.andThen_ok, binOp, h1]
    simp
  · subst hb
    simp only [Sem.run_bind, h2, Result.andThen_ok, binOp, h1]
    simp

/-- '==' or '!=' of interface values of which one is nil. -/
theorem run_eq_ifc {b : BinOp} {neg : Bool} (hb : (match b with | .eql => !neg | .neq => neg | _ => false) = true) {t : TypeId} {ms : Array (String × TypeId)} (hu : P.underlying t = some (.interface ms)) (hms : ms.isEmpty = true) (xo yo : Operand) (x y : Value)
    (r : Bool) (hr : (x = .nilIface ∧ y = .nilIface ∧ r = true) ∨ (x = .nilIface ∧ (∃ t u, y = .iface t u) ∧ r = false) ∨ ((∃ t u, x = .iface t u) ∧ y = .nilIface ∧ r = false)) (w : World) :
    (do eqGuard b t xo yo x y; binOp b t x y : Sem Value).run P w = .ok (.bool (neg != r)) w := by
  have h0 : ∀ d, (Op.equalIn (d + 1) t x y).run P w = .ok r w := by
    intro d
    simp only [Op.equalIn, Sem.run_bind, run_underlying hu, Result.andThen_ok]
    rcases hr with ⟨rfl, rfl, rfl⟩ | ⟨rfl, ⟨_, _, rfl⟩, rfl⟩ | ⟨⟨_, _, rfl⟩, rfl, rfl⟩ <;> rfl
  have h1 : (Op.equal t x y).run P w = .ok r w := h0 9999
  have hg0 : ∀ d, (Op.eqGuardIn (d + 1) t .nilIface .nilIface).run P w = .ok false w := by
    intro d
    simp only [Op.eqGuardIn, Sem.run_bind, run_underlying hu, Result.andThen_ok, hms]
    rfl
  have hg : (Op.eqGuardIn Op.maxDepth t .nilIface .nilIface).run P w = .ok false w := hg0 9999
  have h2 : (eqGuard b t xo yo x y).run P w = .ok () w := by
    rcases hr with ⟨rfl, rfl, rfl⟩ | ⟨rfl, ⟨_, _, rfl⟩, rfl⟩ | ⟨⟨_, _, rfl⟩, rfl, rfl⟩
    · cases b <;> simp only [Bool.false_eq_true] at hb <;> cases xo <;> cases yo <;> simp [eqGuard, hg]
    · cases b <;> simp [eqGuard]
    · cases b <;> simp [eqGuard]
  have h3 : ∀ c, c = BinOp.eql ∨ c = BinOp.neq → (binOp c t x y) = (match c with | .eql => do pure (.bool (← Op.equal t x y)) | _ => do pure (.bool (!(← Op.equal t x y)))) := by
    rintro c (rfl | rfl) <;> rcases hr with ⟨rfl, rfl, rfl⟩ | ⟨rfl, ⟨_, _, rfl⟩, rfl⟩ | ⟨⟨_, _, rfl⟩, rfl, rfl⟩ <;> rfl
  cases b <;> simp only [Bool.false_eq_true] at hb
  · have hn : neg = false := by simpa using hb
    subst hn
    rw [h3 _ (.inl rfl)]
    simp only [Sem.run_bind, h2, Result.andThen_ok, h1]
    simp
  · subst hb
    rw [h3 _ (.inr rfl)]
    simp only [Sem.run_bind, h2, Result.andThen_ok, h1]
    simp

/-- '==' or '!=' of two bools. -/
theorem run_eq_bool {b : BinOp} {neg : Bool} (hb : (match b with | .eql => !neg | .neq => neg | _ => false) = true) {t : TypeId} (hu : P.underlying t = some .bool) (xo yo : Operand) (x y : Bool) (w : World) :
    (do eqGuard b t xo yo (.bool x) (.bool y); binOp b t (.bool x) (.bool y) : Sem Value).run P w = .ok (.bool (neg != (x == y))) w := by
  have h0 : ∀ d, (Op.equalIn (d + 1) t (.bool x) (.bool y)).run P w = .ok (x == y) w := by
    intro d
    simp only [Op.equalIn, Sem.run_bind, run_underlying hu, Result.andThen_ok]
    rfl
  have h1 : (Op.equal t (.bool x) (.bool y)).run P w = .ok (x == y) w := h0 9999
  have h2 : (eqGuard b t xo yo (.bool x) (.bool y)).run P w = .ok () w := run_eqGuard_atom (by simp) rfl w
  have h3 : ∀ c, c = BinOp.eql ∨ c = BinOp.neq → (binOp c t (.bool x) (.bool y)) = (match c with | .eql => do pure (.bool (← Op.equal t (.bool x) (.bool y))) | _ => do pure (.bool (!(← Op.equal t (.bool x) (.bool y))))) := by
    rintro c (rfl | rfl) <;> rfl
  cases b <;> simp only [Bool.false_eq_true] at hb
  · have hn : neg = false := by simpa using hb
    subst hn
    rw [h3 _ (.inl rfl)]
    simp only [Sem.run_bind, h2, Result.andThen_ok, h1]
    simp
  · subst hb
    rw [h3 _ (.inr rfl)]
    simp only [Sem.run_bind, h2, Result.andThen_ok, h1]
    simp

theorem eq_exec {b : BinOp} {t t' : TypeId} {x' y' : Operand} {ty : TypeId} {dst : Option Tmp} {pos : String} {after : Array Edge} {guard : Option (Nat × Bool)} {v : Value}
    (h : (do eqGuard b t x' y' (a.eval x') (a.eval y'); binOp b t (a.eval x') (a.eval y') : Sem Value).run P w = .ok v w) :
    (execOp a.eval (⟨dst, .binOp b t x' y' t', ty, pos, after, guard⟩ : Oper)).run P w = .ok (.value v) w := by
  simp only [execOp, Sem.run_bind] at h ⊢
  rw [h]
  rfl

theorem eqk_ok {k : Eqk} {neg : Bool} {x y : Opd} (hm : matOp P o.op (.eqk k neg x y) = true) (hk : ∀ ks, k ≠ .cells ks) (hkn : k ≠ .nils) (hi : Inv β M H w) (he : HE M β a E (IOp.tmps (.eqk k neg x y))) : OpOk P o a w β M H (iev cx (.eqk k neg x y) E H) := by
  obtain ⟨dst, op', ty, pos, after, guard⟩ := o
  simp only [iev]
  simp only [IOp.tmps] at he
  simp only [matOp] at hm
  split at hm
  · rename_i b t x' y' t'
    simp only [Bool.and_eq_true] at hm
    obtain ⟨⟨⟨h1, h2⟩, h3⟩, h4⟩ := hm
    split
    · rename_i d1 d2 hx hy
      have v1 := opd_sound h2 (he_l he) hx
      have v2 := opd_sound h3 (he_r he) hy
      split
      · rename_i r hr
        refine ok_same (w' := w) (v := .bool (neg != r)) hi (eq_exec ?_) (Grew.refl w) VV_bool
        cases k with
        | cells ks => exact absurd rfl (hk ks)
        | nils => exact absurd rfl hkn
        | bools =>
          simp only [eqkD] at hr
          dsimp only at h4
          split at h4
          · rename_i hu
            split at hr
            · cases hr
              rw [(VV_s_inv v1).1, (VV_s_inv v2).1]
              exact run_eq_bool h1 hu _ _ _ _ w
            · cases hr
          · cases h4
        | nilp =>
          simp only [eqkD] at hr
          dsimp only at h4
          split at h4
          · rename_i el hu
            split at hr
            · cases hr
              rw [(VV_s_inv v1).1, (VV_s_inv v2).1]
              exact run_eq_ptr h1 hu _ _ _ _ (.inl rfl) w
            · cases hr
              obtain ⟨_, _, _, e2, _⟩ := VV_ptr v2
              rw [(VV_s_inv v1).1, e2]
              exact run_eq_ptr h1 hu _ _ _ _ (.inl rfl) w
            · cases hr
              obtain ⟨_, _, _, _, e2, _⟩ := VV_rp v2
              rw [(VV_s_inv v1).1, e2]
              exact run_eq_ptr h1 hu _ _ _ _ (.inl rfl) w
            · cases hr
              obtain ⟨_, _, _, e1, _⟩ := VV_ptr v1
              rw [(VV_s_inv v2).1, e1]
              exact run_eq_ptr h1 hu _ _ _ _ (.inr rfl) w
            · cases hr
              obtain ⟨_, _, _, _, e1, _⟩ := VV_rp v1
              rw [(VV_s_inv v2).1, e1]
              exact run_eq_ptr h1 hu _ _ _ _ (.inr rfl) w
            · cases hr
          · cases h4
        | nili =>
          simp only [eqkD] at hr
          dsimp only at h4
          split at h4
          · rename_i ms hu
            split at hr
            · cases hr
              obtain ⟨_, e1, _⟩ := VV_ifc_inv v1
              exact run_eq_ifc h1 hu h4 _ _ _ _ _ (.inr (.inr ⟨⟨_, _, e1⟩, (VV_s_inv v2).1, rfl⟩)) w
            · cases hr
              obtain ⟨_, e2, _⟩ := VV_ifc_inv v2
              exact run_eq_ifc h1 hu h4 _ _ _ _ _ (.inr (.inl ⟨(VV_s_inv v1).1, ⟨_, _, e2⟩, rfl⟩)) w
            · cases hr
              exact run_eq_ifc h1 hu h4 _ _ _ _ _ (.inl ⟨(VV_s_inv v1).1, (VV_s_inv v2).1, rfl⟩) w
            · cases hr
          · cases h4
      · trivial
    · trivial
  · cases hm

end
end Go.Mini
