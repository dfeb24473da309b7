/- The operations, part 4: structs and slices that are built. -/
import Derived.Test.YtacoaelokdamnaaGreatOps3
import Derived.Laws.Tables
import Derived.Great.BuildSlice
import Derived.Laws.MakeOwn
set_option linter.all false
set_option linter.unusedSimpArgs false
set_option linter.unusedVariables false
namespace Go.Mini

section
variable {P : Program} {cx : Cx} {β : Beta} {M : Mem} {H : Heap} {w : World} {a : Act} {E : Env} {o : Oper}

theorem foldl_set (off : Nat) : ∀ (l : List Value) (k : Nat) (cells : Array Value), off + k + l.length ≤ cells.size →
    ((l.zipIdx k).foldl (fun (cs : Array Value) (x : Value × Nat) => cs.setIfInBounds (off + x.2) x.1) cells).toList = cells.toList.take (off + k) ++ (l ++ cells.toList.drop (off + k + l.length))
  | [], k, cells, _ => by simp
  | v :: r, k, cells, h => by
    simp only [List.zipIdx_cons, List.foldl_cons]
    simp only [List.length_cons] at h
    rw [foldl_set off r (k + 1) _ (by simp; omega)]
    simp only [Array.toList_setIfInBounds]
    apply List.ext_getElem?
    intro j
    have hc : cells.toList.length = cells.size := Array.length_toList
    have m1 : min (off + (k + 1)) cells.size = off + (k + 1) := by omega
    have m2 : min (off + k) cells.size = off + k := by omega
    simp only [List.getElem?_append, List.getElem?_take, List.getElem?_drop, List.getElem?_set, List.length_take, List.length_set, List.length_cons, hc, m1, m2]
    by_cases h1 : j < off + k
    · have h2 : j < off + (k + 1) := by omega
      have h3 : ¬ off + k = j := by omega
      simp only [h1, h2, h3, if_true, if_false]
    · by_cases h4 : j = off + k
      · subst h4
        have h2 : off + k < off + (k + 1) := by omega
        have e1 : off + k < cells.size := by omega
        simp [h2, e1]
      · have h2 : ¬ j < off + (k + 1) := by omega
        have e1 : j - (off + k) = (j - (off + (k + 1))) + 1 := by omega
        simp only [h2, h1, if_false, e1, List.getElem?_cons_succ, Nat.add_lt_add_iff_right]
        by_cases h5 : j - (off + (k + 1)) < r.length
        · simp [h5]
        · have h6 : ¬ off + k = off + (k + 1) + r.length + (j - (off + (k + 1)) - r.length) := by omega
          simp only [h5, if_false, h6]
          congr 1
          omega

/-- The parts' values. -/
def PR (M : Mem) (β : Beta) (place : Nat → Option (Nat × Nat)) : List (Nat × Value) → List (Nat × Nat × D) → Prop
  | [], [] => True
  | (i, v) :: r, (o, n, d) :: s => place i = some (o, n) ∧ VV M β d v ∧ PR M β place r s
  | _, _ => False

theorem fill_sound {place : Nat → Option (Nat × Nat)} : ∀ {parts : List (Nat × Value)} {ps : List (Nat × Nat × D)} {cs cs' : List D} {cells : Array Value}, PR M β place parts ps → cells.size = cs.length → VE M cs β 1 cells.toList →
    fillD cs ps = some cs' → ∃ cells', Instr.fill place cells parts = some cells' ∧ cells'.size = cs'.length ∧ VE M cs' β 1 cells'.toList
  | [], [], cs, cs', cells, _, hl, hv, h => by
    simp only [fillD, Option.some.injEq] at h
    subst h
    exact ⟨cells, rfl, hl, hv⟩
  | (i, v) :: r, (oo, n, d) :: s, cs, cs', cells, hp, hl, hv, h => by
    simp only [PR] at hp
    obtain ⟨h1, h2, h3⟩ := hp
    simp only [fillD] at h
    split at h
    · rename_i hb
      simp only [Bool.and_eq_true] at hb
      have hn := Nat.eq_of_beq_eq_true hb.1
      have hle := Nat.le_of_ble_eq_true hb.2
      have hvl : v.cells.size = n := by have := VF_len _ h2.2; rw [← hn, ← this]; simp
      have hfold := foldl_set oo v.cells.toList 0 cells (by simp; omega)
      simp only [Nat.add_zero, Array.length_toList, hvl] at hfold
      have hfold' : (v.cells.zipIdx.foldl (fun cs x => cs.setIfInBounds (oo + x.2) x.1) cells).toList = cells.toList.take oo ++ (v.cells.toList ++ cells.toList.drop (oo + n)) := by
        rw [← hfold, ← Array.foldl_toList, Array.toList_zipIdx]
      have hpl : (patch cs oo d.flat).length = cs.length := patch_length _ _ _ (by omega)
      have hsz : (v.cells.zipIdx.foldl (fun cs x => cs.setIfInBounds (oo + x.2) x.1) cells).size = (patch cs oo d.flat).length := by
        rw [hpl, ← hl, ← Array.length_toList, hfold']
        simp only [List.length_append, List.length_take, List.length_drop, Array.length_toList]
        omega
      have hve : VE M (patch cs oo d.flat) β 1 (v.cells.zipIdx.foldl (fun cs x => cs.setIfInBounds (oo + x.2) x.1) cells).toList := by
        rw [hfold']
        unfold patch
        have hlo : (cs.take oo).length = oo := by rw [List.length_take]; omega
        have hlo' : (cells.toList.take oo).length = oo := by rw [List.length_take, Array.length_toList]; omega
        refine VE_append (VE_congr ?_ (VE_take oo hv)) ?_
        · rw [hlo, Nat.mul_one, List.take_left' hlo']
        · rw [hlo, Nat.mul_one, List.drop_left' hlo']
          refine VE_append (VE_congr ?_ (VE_flat h2.2)) ?_
          · rw [hn, Nat.mul_one, List.take_left' (by simpa using hvl), List.take_of_length_le (by simp; omega)]
          · rw [hn, Nat.mul_one, List.drop_left' (by simpa using hvl)]
            have := VE_drop (oo + n) hv hle
            rwa [Nat.mul_one] at this
      obtain ⟨cells', h4, h5, h6⟩ := fill_sound (parts := r) (ps := s) h3 hsz hve h
      refine ⟨cells', ?_, h5, h6⟩
      have hc1 : ¬ v.cells.size ≠ n := by omega
      have hc2 : ¬ oo + v.cells.size > cells.size := by omega
      simp only [Instr.fill, h1]
      simp only [hvl, ne_eq, not_true_eq_false, decide_false, Bool.false_or, decide_eq_true_eq, ite_eq_right_iff]
      rw [if_neg (by omega)]
      exact h4
    · cases h
  | [], _ :: _, _, _, _, hp, _, _, _ => by simp [PR] at hp
  | (_, _) :: _, [], _, _, _, hp, _, _, _ => by simp [PR] at hp

theorem parts_PR {place : Nat → Option (Nat × Nat)} {d : TypeDesc} (hpl : ∀ i o' n', placeOf P d i = some (o', n') → place i = some (o', n')) : ∀ {parts : List (Nat × Operand)} {ps : List (Nat × Nat × Opd)} {ds : List (Nat × Nat × D)},
    matParts P d parts ps = true → HE M β a E (ps.flatMap fun p => p.2.2.tmps) → evParts E ps = some ds → PR M β place (parts.map fun x => (x.1, a.eval x.2)) ds
  | [], [], ds, _, _, h => by simp only [evParts, Option.some.injEq] at h; subst h; simp [PR]
  | (i, x) :: r, (oo, n, y) :: s, ds, hm, he, h => by
    simp only [matParts, Bool.and_eq_true] at hm
    obtain ⟨⟨h1, h2⟩, h3⟩ := hm
    simp only [List.flatMap_cons] at he
    simp only [evParts] at h
    split at h
    · cases h
    · rename_i d' hd'
      split at h
      · cases h
      · rename_i ds' hds
        cases h
        split at h1
        · rename_i o' n' hp
          simp only [Bool.and_eq_true] at h1
          obtain rfl := Nat.eq_of_beq_eq_true h1.1
          obtain rfl := Nat.eq_of_beq_eq_true h1.2
          simp only [PR, List.map_cons]
          exact ⟨hpl _ _ _ hp, opd_sound h2 (he_l he) hd', parts_PR hpl h3 (he_r he) hds⟩
        · cases h1
  | [], _ :: _, _, hm, _, _ => by simp [matParts] at hm
  | (_, _) :: _, [], _, hm, _, _ => by simp [matParts] at hm

theorem build_ok {zs : List D} {ps : List (Nat × Nat × Opd)} (hm : matOp P o.op (.build zs ps) = true) (hi : Inv β M H w) (he : HE M β a E (IOp.tmps (.build zs ps))) : OpOk P o a w β M H (iev cx (.build zs ps) E H) := by
  obtain ⟨dst, op', ty, pos, after, guard⟩ := o
  simp only [iev]
  simp only [IOp.tmps] at he
  simp only [matOp] at hm
  split at hm
  · rename_i t parts
    split at hm
    · rename_i d hu
      simp only [Bool.and_eq_true] at hm
      obtain ⟨⟨h1, h2⟩, h3⟩ := hm
      obtain ⟨it, z, h4, h5, h6⟩ := zeroOk_spec h1
      obtain ⟨h7, h8⟩ := zsOk_spec h6 M β
      split
      · trivial
      · rename_i ds hds
        split
        · rename_i cs hcs
          have hz : z.cells.size = zs.length := by simpa using h7
          have key : ∃ cells, P.built t (parts.map fun x => (x.1, a.eval x.2)).toList = some cells ∧ cells.size = cs.length ∧ VE M cs β 1 cells.toList := by
            rw [Array.toList_map]
            cases d with
            | struct fields =>
              have hall : ∀ f : Field, f ∈ fields.toList → (tsz P f.type).isSome = true := by
                simp only [allPlaces, List.all_eq_true] at h2
                exact h2
              have hmap : ∀ (fs : List Field), (∀ f : Field, f ∈ fs → (tsz P f.type).isSome = true) → ∃ pl, fs.mapM (fun (f : Field) => (P.info? f.type).map fun i => (f.offset, i.size)) = some pl ∧
                  ∀ (i : Nat) (f : Field), fs[i]? = some f → ∃ n b ag, tsz P f.type = some (n, b, ag) ∧ pl[i]? = some (f.offset, n) := by
                intro fs
                induction fs with
                | nil => intro _; exact ⟨[], by simp, by simp⟩
                | cons f fs ih =>
                  intro hf
                  obtain ⟨pl, h9, h10⟩ := ih fun g hg => hf g (by simp [hg])
                  obtain ⟨q, hq⟩ := Option.isSome_iff_exists.1 (hf f (by simp))
                  obtain ⟨n, b, ag⟩ := q
                  obtain ⟨i, dd, h11, _, h12, _⟩ := tsz_spec hq
                  refine ⟨(f.offset, n) :: pl, by simp [List.mapM_cons, h9, h11, h12], ?_⟩
                  intro j g hj
                  cases j with
                  | zero => simp at hj; subst hj; exact ⟨n, b, ag, hq, rfl⟩
                  | succ j => simpa using h10 j g (by simpa using hj)
              obtain ⟨pl, h9, h10⟩ := hmap fields.toList hall
              have hpl : ∀ i o' n', placeOf P (.struct fields) i = some (o', n') → (pl.toArray[·]?) i = some (o', n') := by
                intro i o' n' hp
                simp only [placeOf] at hp
                split at hp
                · rename_i f hf
                  split at hp
                  · rename_i n b ag ht
                    cases hp
                    obtain ⟨n'', b'', ag'', h11, h12⟩ := h10 i f (by simpa using hf)
                    rw [ht] at h11
                    cases h11
                    simpa using h12
                  · cases hp
                · cases hp
              obtain ⟨cells, h11, h12, h13⟩ := fill_sound (parts_PR hpl h3 he hds) hz h8 hcs
              refine ⟨cells, ?_, h12, h13⟩
              simp only [Program.built, h4, hu, h5, h9]
              exact h11
            | array len e =>
              cases ht : tsz P e with
              | none =>
                cases hpp : parts.toList with
                | nil =>
                  rw [hpp] at h3
                  cases ps with
                  | nil =>
                    simp only [evParts, Option.some.injEq] at hds
                    subst hds
                    simp only [fillD, Option.some.injEq] at hcs
                    subst hcs
                    simp [allPlaces, ht] at h2
                  | cons _ _ => simp [matParts] at h3
                | cons x r =>
                  rw [hpp] at h3
                  cases ps with
                  | nil => simp [matParts] at h3
                  | cons y s =>
                    obtain ⟨i, x⟩ := x
                    obtain ⟨o1, n1, y⟩ := y
                    simp [matParts, placeOf, ht] at h3
              | some q =>
                obtain ⟨n, b, ag⟩ := q
                obtain ⟨ie, de, h9, _, h10, _⟩ := tsz_spec ht
                have hpl : ∀ i o' n', placeOf P (.array len e) i = some (o', n') → (fun i => some (i * ie.size, ie.size)) i = some (o', n') := by
                  intro i o' n' hp
                  simp only [placeOf, ht] at hp
                  rw [h10]
                  exact hp
                obtain ⟨cells, h11, h12, h13⟩ := fill_sound (parts_PR hpl h3 he hds) hz h8 hcs
                refine ⟨cells, ?_, h12, h13⟩
                simp only [Program.built, h4, hu, h5, h9]
                exact h11
            | _ => simp [allPlaces] at h2
          obtain ⟨cells, h9, h10, h11⟩ := key
          exact ok_same (w' := w) (v := .agg cells) hi (by simp [execOp, run_build w t _ cells h9]) (Grew.refl w) (VV_agg h10 h11)
        · trivial
    · cases hm
  · cases hm

end
end Go.Mini
