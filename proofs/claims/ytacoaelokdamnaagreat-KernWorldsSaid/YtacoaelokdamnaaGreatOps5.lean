/- The operations, part 5: slices. -/
import Derived.Test.YtacoaelokdamnaaGreatOps4
set_option linter.all false
set_option linter.unusedSimpArgs false
set_option linter.unusedVariables false
namespace Go.Mini

mutual
theorem VF_fz {M : Mem} : ∀ (x : D) {β β' : Beta} {l : List Value}, isFz x = true → VF M x β l → VF M x β' l
  | .s v, _, _, _, _, h => by simpa only [VF] using h
  | .agg xs, _, _, _, hf, h => by
    simp only [isFz] at hf
    simp only [VF] at h ⊢
    exact ⟨h.1, VE_fz xs hf h.2⟩
  | .tup xs, _, _, _, hf, h => by
    simp only [isFz] at hf
    simp only [VF] at h ⊢
    obtain ⟨vs, h1, h2⟩ := h
    exact ⟨vs, h1, VT_fz xs hf h2⟩
  | .lit k xs, _, _, _, _, h => by simpa only [VF] using h
  | .rp bo x o, _, _, _, _, h => by simpa only [VF] using h
  | .sl .., _, _, _, hf, _ => by simp [isFz] at hf
  | .ptr .., _, _, _, hf, _ => by simp [isFz] at hf
  | .mp _, _, _, _, hf, _ => by simp [isFz] at hf
  | .unk u p, _, _, _, _, h => by simpa only [VF] using h
  | .fn f a c, _, _, _, hf, h => by
    simp only [isFz, Bool.and_eq_true] at hf
    simp only [VF] at h ⊢
    obtain ⟨vs, ws, h1, h2, h3⟩ := h
    exact ⟨vs, ws, h1, VT_fz a hf.1 h2, VT_fz c hf.2 h3⟩
  | .ifc t x, _, _, _, hf, h => by
    simp only [isFz] at hf
    simp only [VF] at h ⊢
    obtain ⟨v, h1, h2, h3⟩ := h
    exact ⟨v, h1, h2, VF_fz x hf h3⟩
theorem VE_fz {M : Mem} : ∀ (xs : List D) {β β' : Beta} {e : Nat} {l : List Value}, isFzs xs = true → VE M xs β e l → VE M xs β' e l
  | [], _, _, _, _, _, _ => VE_nil
  | x :: xs, _, _, _, _, hf, h => by
    simp only [isFzs, Bool.and_eq_true] at hf
    simp only [VE] at h ⊢
    exact ⟨h.1, h.2.1, VF_fz x hf.1 h.2.2.1, VE_fz xs hf.2 h.2.2.2⟩
theorem VT_fz {M : Mem} : ∀ (xs : List D) {β β' : Beta} {l : List Value}, isFzs xs = true → VT M xs β l → VT M xs β' l
  | [], _, _, _, _, h => by simpa only [VT] using h
  | x :: xs, _, _, _, hf, h => by
    simp only [isFzs, Bool.and_eq_true] at hf
    simp only [VT] at h ⊢
    obtain ⟨v, r, h1, h2, h3, h4⟩ := h
    exact ⟨v, r, h1, h2, VF_fz x hf.1 h3, VT_fz xs hf.2 h4⟩
end

section
variable {P : Program} {cx : Cx} {β : Beta} {M : Mem} {H : Heap} {w : World} {a : Act} {E : Env} {o : Oper}

theorem VV_fz {x : D} {v : Value} {β' : Beta} (hf : isFz x = true) (h : VV M β x v) : VV M β' x v := ⟨h.1, VF_fz x hf h.2⟩

/-- The elements' cells, one behind the other. -/
theorem VE_flatMap {e : Nat} : ∀ {ys : List D} {l : List Value}, VE M ys β e l → (ys.flatMap D.flat).length = ys.length * e ∧ VE M (ys.flatMap D.flat) β 1 l
  | [], _, _ => ⟨by simp, VE_nil⟩
  | y :: ys, l, h => by
    simp only [VE] at h
    obtain ⟨h1, h2, h3, h4⟩ := h
    obtain ⟨h5, h6⟩ := VE_flatMap h4
    simp only [List.flatMap_cons, List.length_append, List.length_cons]
    refine ⟨by rw [h5, h2, Nat.succ_mul, Nat.add_comm], ?_⟩
    refine VE_append (VE_of_prefix (n := e) (by omega) (VE_flat h3)) ?_
    rw [h2, Nat.mul_one]
    exact h6

theorem allSize_spec {e : Nat} {ag : Bool} {xs : List D} (h : allSize e ag xs = true) : ∀ x ∈ xs, x.flat.length = e ∧ x.isAgg = ag := by
  intro x hx
  simp only [allSize, List.all_eq_true, Bool.and_eq_true, beq_iff_eq] at h
  exact ⟨Nat.eq_of_beq_eq_true (h x hx).1, (h x hx).2⟩

theorem VE_esize {e e' : Nat} {xs : List D} {l : List Value} (h : VE M xs β e l) (hx : ∃ x ∈ xs, x.flat.length = e') : e = e' := by
  obtain ⟨x, h1, h2⟩ := hx
  obtain ⟨i, hi⟩ := List.getElem?_of_mem h1
  exact (VE_get h hi).1.symm.trans h2

/-- A slice's elements, and their cells. -/
theorem elems_cells {y : D} {e : Nat} {ag : Bool} {ys : List D} {v : Value} (hi : Inv β M H w) (h : elems H y e ag = some ys) (hv : VV M β y v) : ∃ ad c, v = .slice ad ys.length c ∧ ys.length ≤ c ∧
    (ys = [] ∨ ∃ blk off cs el fr, ad = some ⟨blk, off, none⟩ ∧ w.heap[blk]? = some (.cells cs el fr) ∧ off + ys.length * e ≤ cs.size ∧ VE M ys β e (cs.toList.drop off)) := by
  unfold elems at h
  split at h
  · rename_i k xs
    split at h
    · rename_i hs
      cases h
      obtain ⟨ad, c, h1, h2, h3, h4⟩ := VV_lit hv
      refine ⟨ad, c, h1, h2, ?_⟩
      rcases h4 with h4 | ⟨blk, off, e', bo, cs, h5, h6, _, h7, h8⟩
      · exact .inl h4
      · by_cases hn : ys = []
        · exact .inl hn
        · obtain ⟨x, r, rfl⟩ := List.exists_cons_of_ne_nil hn
          obtain rfl := VE_esize h8 ⟨x, by simp, (allSize_spec hs x (by simp)).1⟩
          obtain ⟨el, fr, hg⟩ := hi.mem blk bo cs h6
          exact .inr ⟨blk, off, cs, el, fr, h5, hg, h7, VE_mono M.le_refl _ (nob_le β) h8⟩
    · cases h
  · rename_i b off n esz ag' cp
    split at h
    · rename_i opn xs hc
      split at h
      · rename_i hb
        simp only [Bool.and_eq_true, beq_iff_eq, Bool.or_eq_true, List.all_eq_true, Bool.not_eq_true'] at hb
        obtain ⟨⟨⟨hb1, rfl⟩, hb3⟩, hb4⟩ := hb
        obtain rfl := Nat.eq_of_beq_eq_true hb1
        have hle := Nat.le_of_ble_eq_true hb3
        cases h
        obtain ⟨blk, sh, C, c, h1, h2, h3, h4, h5, h6, h7⟩ := VV_sl hv
        obtain ⟨hM, cs, el, hg, hC, hsh, _, hve⟩ := hi.live b blk sh C opn xs h2 (cellsOf_some hc)
        rw [chunks_length]
        refine ⟨_, c, h1, h6, .inr ⟨blk, sh + off, cs, el, (0, 0), rfl, hg, by omega, ?_⟩⟩
        have hd := VE_drop off hve (by omega)
        rw [Nat.mul_one, List.drop_drop] at hd
        refine VE_chunks ag (fun hf => ?_) n (by rw [List.length_drop]; omega) (fun hf x hx => ?_) hd
        · rcases hb4 with h | h
          · rw [hf] at h; cases h
          · exact Nat.eq_of_beq_eq_true h.1
        · rcases hb4 with h | h
          · rw [hf] at h; cases h
          · exact h.2 x (List.mem_of_mem_drop hx)
      · cases h
    · cases h
  · cases h

/-- Their first cells, loaded. -/
theorem run_firstCells {ys : List D} {e k c : Nat} {ad : Option Addr} (hk : k ≤ ys.length) (h : ys = [] ∨ ∃ blk off cs el fr, ad = some ⟨blk, off, none⟩ ∧ w.heap[blk]? = some (.cells cs el fr) ∧ off + ys.length * e ≤ cs.size ∧ VE M ys β e (cs.toList.drop off)) :
    ∃ l, (Builtin.firstCells e k (.slice ad ys.length c)).run P w = .ok l.toArray w ∧ l.length = k * e ∧ VE M (ys.take k) β e l := by
  rcases h with rfl | ⟨blk, off, cs, el, fr, rfl, hg, hs, hv⟩
  · have hk : k = 0 := by simpa using hk
    subst hk
    refine ⟨[], ?_, by simp, by simpa using VE_nil⟩
    cases ad with
    | none => simp [Builtin.firstCells]
    | some a => simp [Builtin.firstCells, loadCells, loadCellsFrom]
  · have hle : k * e ≤ ys.length * e := Nat.mul_le_mul_right _ hk
    refine ⟨(cs.toList.drop off).take (k * e), ?_, by rw [List.length_take, List.length_drop, Array.length_toList]; omega, VE_prefix (by rw [List.length_take]; exact Nat.mul_le_mul_right _ (Nat.min_le_left _ _)) (VE_take k hv)⟩
    have hl := run_loadCells' (P := P) hg (o := off) (n := k * e) (by omega)
    simp only [Builtin.firstCells, hl]

theorem sliceOk_spec {t : TypeId} {e bytes : Nat} {ag : Bool} (h : sliceOk P t e bytes ag = true) : ∃ el, P.underlying t = some (.slice el) ∧ tsz P el = some (e, bytes, ag) := by
  unfold sliceOk at h
  split at h
  · rename_i el hel
    split at h
    · rename_i n b a' ht
      simp only [Bool.and_eq_true, beq_iff_eq] at h
      obtain ⟨⟨h1, h2⟩, rfl⟩ := h
      obtain rfl := Nat.eq_of_beq_eq_true h1
      obtain rfl := Nat.eq_of_beq_eq_true h2
      refine ⟨el, ?_, ht⟩
      unfold elemT at hel
      split at hel
      · cases hel; assumption
      · cases hel
    · cases h
  · cases h
theorem sliceOk'_spec {t : TypeId} {e : Nat} {ag : Bool} (h : sliceOk' P t e ag = true) : ∃ el b, P.underlying t = some (.slice el) ∧ tsz P el = some (e, b, ag) := by
  unfold sliceOk' at h
  split at h
  · rename_i el hel
    split at h
    · rename_i n b a' ht
      simp only [Bool.and_eq_true, beq_iff_eq] at h
      obtain ⟨h1, rfl⟩ := h
      obtain rfl := Nat.eq_of_beq_eq_true h1
      refine ⟨el, b, ?_, ht⟩
      unfold elemT at hel
      split at hel
      · cases hel; assumption
      · cases hel
    · cases h
  · cases h
theorem elemT_spec {t el : TypeId} (h : elemT P t = some el) : P.underlying t = some (.slice el) := by
  unfold elemT at h
  split at h
  · cases h; assumption
  · cases h

/-! ### copy -/
theorem cpy_ok {x y : Opd} {e : Nat} {ag : Bool} (hm : matOp P o.op (.cpy x y e ag) = true) (hi : Inv β M H w) (he : HE M β a E (IOp.tmps (.cpy x y e ag))) : OpOk P o a w β M H (iev cx (.cpy x y e ag) E H) := by
  obtain ⟨dst, op', ty, pos, after, guard⟩ := o
  simp only [iev]
  simp only [IOp.tmps] at he
  simp only [matOp] at hm
  split at hm
  · rename_i c
    obtain ⟨callee, args, argTypes⟩ := c
    simp only [Bool.and_eq_true] at hm
    obtain ⟨⟨h1, h2⟩, h3⟩ := hm
    obtain ⟨x', y', rfl, h4, h5⟩ := matOpds_two h2
    split at h1
    · split at h3
      · rename_i t u htu
        have htu : argTypes = #[t, u] := by
          obtain ⟨l⟩ := argTypes
          simpa using htu
        subst htu
        simp only [Bool.and_eq_true] at h3
        obtain ⟨el, b1, hu1, ht1⟩ := sliceOk'_spec h3.1
        split
        · rename_i d1 d2 hx hy
          have v1 := opd_sound h4 (he_l he) hx
          have v2 := opd_sound h5 (he_r he) hy
          split
          · rename_i r hr
            unfold cpyD at hr
            split at hr
            · rename_i ys n hys hn
              obtain ⟨ad, c2, e2, hle2, hc2⟩ := elems_cells hi hys v2
              obtain ⟨ad1, c1, e1, hle1⟩ := slen_spec hn v1
              obtain ⟨l, hl1, hl2, hl3⟩ := run_firstCells (P := P) (c := c2) (k := Nat.min ys.length n) (Nat.min_le_left _ _) hc2
              have htk : ys.take (Nat.min ys.length n) = ys.take n := by
                show ys.take (min ys.length n) = _
                rw [Nat.min_def]
                split
                · rename_i h; rw [List.take_of_length_le (Nat.le_refl _), List.take_of_length_le h]
                · rfl
              have hzl : (ys.take n).length = Nat.min ys.length n := by rw [List.length_take]; exact Nat.min_comm _ _
              rw [htk] at hl3
              have hex : ∀ {w' : World}, (match ad1 with | some a => storeCells a l | none => pure () : Sem Unit).run P w = .ok () w' →
                  (execOp a.eval (⟨dst, .call ⟨.builtin .copy, #[x', y'], #[t, u]⟩, ty, pos, after, guard⟩ : Oper)).run P w = .ok (.value (.int .i64 (Nat.min ys.length n : Nat))) w' := by
                intro w' hst
                simp only [execOp, resolve, invoke, builtin, Builtin.copy_, List.map_toArray, List.map_cons, List.map_nil, e1, e2]
                simp only [Sem.run_bind, Sem.run_pure, Sem.run_map, Result.andThen_ok, List.getElem?_toArray, List.getElem?_cons_zero, List.getElem?_cons_succ, run_underlying hu1, Builtin.lenOf, run_sizeOf' ht1, hl1]
                cases ad1 with
                | none =>
                  simp only [Sem.run_pure] at hst
                  cases hst
                  simp [goInt]
                | some ad =>
                  simp only [] at hst
                  simp [hst, goInt]
              unfold cpyE at hr
              split at hr
              · rename_i hz
                cases hr
                rw [hz] at hzl
                have hk0 : Nat.min ys.length n = 0 := hzl.symm
                rw [hk0] at hl2 hex
                have hl0 : l = [] := List.eq_nil_of_length_eq_zero (by simpa using hl2)
                subst hl0
                refine ok_same (w' := w) (v := .int .i64 0) hi (hex ?_) (Grew.refl w) VV_int
                cases ad1 <;> rfl
              · rename_i z zs hz
                split at hr
                · rename_i b off n' esz ag' cp
                  split at hr
                  · rename_i hb
                    split at hr
                    · rename_i H' hs
                      cases hr
                      obtain ⟨blk, sh, C, c, q1, q2, _⟩ := VV_sl v1
                      rw [e1] at q1
                      cases q1
                      obtain ⟨q3, q4⟩ := VE_flatMap hl3
                      obtain ⟨w', q5, q6, q7⟩ := run_setCells (P := P) hi q2 hs (by rw [q3, hl2, hzl]) q4
                      rw [hzl]
                      exact ok_value (v := .int .i64 (Nat.min ys.length n : Nat)) (hex q5) q6 q7 VV_int
                    · cases hr
                  · cases hr
                · cases hr
            · cases hr
          · trivial
        · trivial
      · cases h3
    · cases h1
  · cases hm

end
end Go.Mini
