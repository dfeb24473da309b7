/- The operations, part 6: slices cut, made, built. -/
import Derived.Test.YtacoaelokdamnaaGreatOps5
set_option linter.all false
set_option linter.unusedSimpArgs false
set_option linter.unusedVariables false
namespace Go.Mini

section
variable {P : Program} {cx : Cx} {β : Beta} {M : Mem} {H : Heap} {w : World} {a : Act} {E : Env} {o : Oper}

/-! ### zero cells, many times -/
theorem reps_length (zs : List D) : ∀ n, (reps zs n).length = n * zs.length
  | 0 => by simp [reps]
  | n + 1 => by simp only [reps, List.length_append, reps_length zs n, Nat.succ_mul, Nat.add_comm]

theorem range_reps (z : List Value) : ∀ (n : Nat), 0 < z.length → (List.range (n * z.length)).map (fun i => z.getD (i % z.length) default) = (List.replicate n z).flatten
  | 0, _ => by simp
  | n + 1, hz => by
    rw [Nat.succ_mul, Nat.add_comm, List.range_add, List.map_append, List.map_map, List.replicate_succ, List.flatten_cons]
    congr 1
    · apply List.ext_getElem
      · simp
      · intro i h1 h2
        simp only [List.length_map, List.length_range] at h1
        simp [Nat.mod_eq_of_lt h1, List.getD_eq_getElem?_getD, h1]
    · rw [← range_reps z n hz]
      apply List.map_congr_left
      intro i _
      simp

theorem VE_reps {zs : List D} {z : List Value} (hl : z.length = zs.length) (hv : VE M zs β 1 z) : ∀ n, VE M (reps zs n) β 1 (List.replicate n z).flatten
  | 0 => VE_nil
  | n + 1 => by
    simp only [reps, List.replicate_succ, List.flatten_cons]
    refine VE_append (VE_of_prefix (n := z.length) (by omega) (by simpa using hv)) ?_
    rw [Nat.mul_one, ← hl, List.drop_left' rfl]
    exact VE_reps hl hv n

/-- Fresh cells of an element type. -/
theorem made_cells {z : Value} {zs : List D} {e n : Nat} (h : zsOk z.cells.toList zs = true) (he : zs.length = e) (h1 : 1 ≤ e) (M : Mem) (β : Beta) :
    ((Array.range (n * e)).map (z.cells[· % z.cells.size]!)).size = (reps zs n).length ∧ VE M (reps zs n) β 1 ((Array.range (n * e)).map (z.cells[· % z.cells.size]!)).toList := by
  obtain ⟨h2, h3⟩ := zsOk_spec h M β
  have hsz : z.cells.size = e := by rw [← he, ← h2]; simp
  refine ⟨by simp [reps_length, he], ?_⟩
  have h4 : ((Array.range (n * e)).map (z.cells[· % z.cells.size]!)).toList = (List.replicate n z.cells.toList).flatten := by
    rw [← range_reps z.cells.toList n (by simp; omega)]
    simp only [Array.toList_map, Array.toList_range, Array.length_toList, hsz]
    apply List.map_congr_left
    intro i _
    have hlt : i % e < z.cells.size := by rw [hsz]; exact Nat.mod_lt _ (by omega)
    rw [getElem!_pos z.cells _ hlt]
    rw [List.getD_eq_getElem?_getD]
    simp [hlt]
  rw [h4]
  exact VE_reps h2 h3 n

/-- A slice over a whole new block. -/
theorem VV_sl_new {b n e C blk : Nat} {ag : Bool} (hb : β b = some (blk, 0, C)) (hC : C = n * e) (h1 : 1 ≤ e) : VV M β (.sl b 0 n e ag none) (.slice (some ⟨blk, 0, none⟩) n n) := by
  refine ⟨rfl, ?_⟩
  simp only [VF, Value.cells]
  exact ⟨blk, 0, C, n, rfl, hb, by omega, fun _ => by omega, fun _ h => (by cases h), Nat.le_refl _, by omega⟩

theorem VV_lit_new {n e blk : Nat} {ag : Bool} {cells : Array Value} {cs : List D} {M' : Mem} (hM : M' blk = some (false, cells)) (hs : cells.size = n * e) (hl : cs.length = n * e) (hag : ag = true ∨ (e = 1 ∧ ∀ x ∈ cs, x.isAgg = false))
    (hv : VE M' cs nob 1 cells.toList) : VV M' β (.lit .exact (chunks e ag n cs)) (.slice (some ⟨blk, 0, none⟩) n n) := by
  refine ⟨rfl, ?_⟩
  simp only [VF, Value.cells]
  refine ⟨_, n, n, rfl, (chunks_length e ag n cs).symm, Nat.le_refl _, ⟨rfl, by simp⟩, .inr ⟨blk, 0, e, false, cells, rfl, hM, fun h => (by cases h), by omega, ?_⟩⟩
  simp only [List.drop_zero]
  refine VE_chunks ag (fun hf => ?_) n (by omega) (fun hf => ?_) hv
  · rcases hag with h | h
    · rw [hf] at h; cases h
    · exact h.1
  · rcases hag with h | h
    · rw [hf] at h; cases h
    · exact h.2

theorem idx_PR {e : Nat} : ∀ {parts : List (Nat × Operand)} {ps : List (Nat × Opd)} {ds : List (Nat × Nat × D)}, matIdx parts ps = true → HE M β a E (ps.flatMap fun p => p.2.tmps) →
    evParts E (ps.map fun x => (x.1 * e, e, x.2)) = some ds → PR M β (fun i => some (i * e, e)) (parts.map fun x => (x.1, a.eval x.2)) ds
  | [], [], ds, _, _, h => by simp only [List.map_nil, evParts, Option.some.injEq] at h; subst h; simp [PR]
  | (i, x) :: r, (j, y) :: s, ds, hm, he, h => by
    simp only [matIdx, Bool.and_eq_true] at hm
    obtain ⟨⟨h1, h2⟩, h3⟩ := hm
    obtain rfl := Nat.eq_of_beq_eq_true h1
    simp only [List.flatMap_cons] at he
    simp only [List.map_cons, evParts] at h
    split at h
    · cases h
    · rename_i d' hd'
      split at h
      · cases h
      · rename_i ds' hds
        cases h
        simp only [PR, List.map_cons]
        exact ⟨trivial, opd_sound h2 (he_l he) hd', idx_PR h3 (he_r he) hds⟩
  | [], _ :: _, _, hm, _, _ => by simp [matIdx] at hm
  | (_, _) :: _, [], _, hm, _, _ => by simp [matIdx] at hm

theorem fillD_length : ∀ {ps : List (Nat × Nat × D)} {cs cs' : List D}, fillD cs ps = some cs' → cs'.length = cs.length
  | [], cs, cs', h => by simp only [fillD, Option.some.injEq] at h; rw [h]
  | (oo, n, d) :: r, cs, cs', h => by
    simp only [fillD] at h
    split at h
    · rename_i hb
      simp only [Bool.and_eq_true] at hb
      have hn := Nat.eq_of_beq_eq_true hb.1
      have hle := Nat.le_of_ble_eq_true hb.2
      rw [fillD_length h, patch_length _ _ _ (by omega)]
    · cases h

theorem bsl_ok {asLit : Bool} {e : Nat} {ag : Bool} {zs : List D} {len : Nat} {ps : List (Nat × Opd)} (hm : matOp P o.op (.bsl asLit e ag zs len ps) = true) (hi : Inv β M H w) (he : HE M β a E (IOp.tmps (.bsl asLit e ag zs len ps))) :
    OpOk P o a w β M H (iev cx (.bsl asLit e ag zs len ps) E H) := by
  obtain ⟨dst, op', ty, pos, after, guard⟩ := o
  simp only [iev]
  simp only [IOp.tmps] at he
  simp only [matOp] at hm
  split at hm
  · rename_i t len' parts
    split at hm
    · rename_i el hel
      split at hm
      · rename_i n b a' ht
        simp only [Bool.and_eq_true, beq_iff_eq, Bool.or_eq_true] at hm
        obtain ⟨⟨⟨⟨⟨⟨⟨h1, rfl⟩, h3⟩, h4⟩, h5⟩, h6⟩, h7⟩, h8⟩ := hm
        obtain rfl := Nat.eq_of_beq_eq_true h1
        obtain rfl := Nat.eq_of_beq_eq_true h3
        have h5 := Nat.le_of_ble_eq_true h5
        have h6 := Nat.eq_of_beq_eq_true h6
        have h7 := Nat.le_of_ble_eq_true h7
        obtain ⟨ie, de, hie, hde, hsz, _, _⟩ := tsz_spec ht
        split
        · trivial
        · rename_i ds hds
          split
          · trivial
          · rename_i cs hcs
            have hu := elemT_spec hel
            have hlen := fillD_length hcs
            rw [reps_length, h6] at hlen
            have hrun : ∃ cells, (Instr.buildSlice t len (parts.map fun x => (x.1, a.eval x.2))).run P w = .ok (.slice (some ⟨w.heap.size, 0, none⟩) len len) (w.alloc (.cells cells el)) ∧ cells.size = cs.length ∧ ∀ M β', (HE M β' a E (ps.flatMap fun p => p.2.tmps)) → VE M cs β' 1 cells.toList := by
              by_cases h0 : len * n = 0
              · have hl0 : len = 0 := by rcases Nat.mul_eq_zero.1 h0 with h | h <;> omega
                subst hl0
                have hps : PR M β (fun i => some (i * n, n)) (parts.map fun x => (x.1, a.eval x.2)).toList ds := by rw [Array.toList_map]; exact idx_PR h8 he hds
                obtain ⟨cells, g1, g2, g3⟩ := fill_sound (cells := #[]) hps (by simp [reps]) (by simpa [reps] using VE_nil) hcs
                have hcl : cs = [] := List.eq_nil_of_length_eq_zero (by omega)
                refine ⟨cells, ?_, g2, fun M β' _ => by rw [hcl]; exact VE_nil⟩
                have hr0 : (Array.range 0) = #[] := rfl
                rw [Array.toList_map] at g1
                simp [Instr.buildSlice, run_underlying hu, run_sizeOf' ht, g1, run_row, hr0]
              · have hz : zeroOk P el zs = true := by
                  rcases h4 with h4 | h4
                  · exact absurd (Nat.eq_of_beq_eq_true h4) h0
                  · exact h4
                obtain ⟨i, z, q1, q2, q3⟩ := zeroOk_spec hz
                obtain ⟨g1, g2⟩ := made_cells (n := len) q3 h6 h7 M β
                have hps : PR M β (fun i => some (i * n, n)) (parts.map fun x => (x.1, a.eval x.2)).toList ds := by rw [Array.toList_map]; exact idx_PR h8 he hds
                obtain ⟨cells, g3, g4, g5⟩ := fill_sound hps g1 g2 hcs
                rw [hie] at q1
                cases q1
                subst hsz
                refine ⟨cells, run_buildSlice w t el len _ cells ie z hu hie q2 (by omega) h0 g3, g4, ?_⟩
                intro M' β' he'
                obtain ⟨g1', g2'⟩ := made_cells (n := len) q3 h6 h7 M' β'
                have hps' : PR M' β' (fun i => some (i * ie.size, ie.size)) (parts.map fun x => (x.1, a.eval x.2)).toList ds := by rw [Array.toList_map]; exact idx_PR h8 he' hds
                obtain ⟨cells', g3', g4', g5'⟩ := fill_sound hps' g1' g2' hcs
                rw [g3] at g3'
                cases g3'
                exact g5'
            obtain ⟨cells, hr, hcsz, hve⟩ := hrun
            have hv := hve M β he
            split
            · obtain ⟨g6, g7⟩ := new_block (opn := false) (xs := cs) (cs := cells) (e := el) hi (by omega) (fun _ => hcsz.symm) hv
              refine ok_value (v := .slice (some ⟨w.heap.size, 0, none⟩) len len) (by simp [execOp, hr]) g7 g6 (VV_sl_new (Beta.put_same _ _ _) (by omega) h7)
            · split
              · rename_i hb
                simp only [Bool.and_eq_true, Bool.or_eq_true, List.all_eq_true, Bool.not_eq_true'] at hb
                obtain ⟨hf, hag⟩ := hb
                obtain ⟨g6, g7⟩ := mem_block (cs := cells) (e := el) hi
                refine ok_value (v := .slice (some ⟨w.heap.size, 0, none⟩) len len) (by simp [execOp, hr]) g7 g6 (VV_lit_new (Mem.put_same _ _ _) (by omega) (by omega) ?_ ?_)
                · rcases hag with h | h
                  · exact .inl h
                  · exact .inr ⟨Nat.eq_of_beq_eq_true h.1, h.2⟩
                · exact VE_mono g7.ml _ (fun _ _ h => h) (VE_fz cs hf hv)
              · trivial
      · cases hm
    · cases hm
  · cases hm

theorem bxl_ok {x : Opd} (hm : matOp P o.op (.bxl x) = true) (hi : Inv β M H w) (he : HE M β a E (IOp.tmps (.bxl x))) : OpOk P o a w β M H (iev cx (.bxl x) E H) := by
  obtain ⟨dst, op', ty, pos, after, guard⟩ := o
  simp only [iev]
  simp only [IOp.tmps] at he
  simp only [matOp] at hm
  split at hm
  · rename_i t y
    split
    · rename_i d hd
      split
      · rename_i hf
        have hv := opd_sound hm he hd
        have hl := VF_len _ hv.2
        obtain ⟨g6, g7⟩ := mem_block (cs := (a.eval y).cells) (e := t) hi
        refine ok_value (v := .pointer (some ⟨w.heap.size, 0, none⟩)) ?_ g7 g6 ?_
        · simp [execOp, Instr.box, newVar, run_row]
        · refine ⟨rfl, ?_⟩
          simp only [VF, Value.cells]
          refine ⟨w.heap.size, 0, false, (a.eval y).cells, d.flat.length, rfl, Mem.put_same _ _ _, fun h => h, ?_, rfl, ?_⟩
          · have : (a.eval y).cells.size = d.flat.length := by simpa using hl
            omega
          · rw [List.drop_zero, List.take_of_length_le (by omega)]
            exact VF_mono g7.ml _ (fun _ _ h => h) (VF_fz d hf hv.2)
      · trivial
    · trivial
  · cases hm

/-! ### make -/
theorem run_make {t el : TypeId} {n bytes : Nat} {ag : Bool} {zs : List D} (hu : P.underlying t = some (.slice el)) (ht : tsz P el = some (n, bytes, ag)) (hz : zeroOk P el zs = true) (hl : zs.length = n) (h1 : 1 ≤ n) (k k' : IntKind) (l : Nat)
    (hb : l * bytes ≤ 140737488355328) (hl63 : l ≤ 140737488355328) (w : World) : ∃ cells, (Instr.makeSlice t (.int k (l : Int)) (.int k' (l : Int))).run P w = .ok (.slice (some ⟨w.heap.size, 0, none⟩) l l) (w.alloc (.cells cells el)) ∧
      cells.size = (reps zs l).length ∧ ∀ M β, VE M (reps zs l) β 1 cells.toList := by
  obtain ⟨ie, de, hie, hde, hsz, hby, _⟩ := tsz_spec ht
  obtain ⟨i, z, q1, q2, q3⟩ := zeroOk_spec hz
  rw [hie] at q1
  cases q1
  subst hby
  have hwl : ((ie.bytes : Int) * (l : Int)) ≤ 281474976710656 := by
    have : ((l * ie.bytes : Nat) : Int) ≤ 140737488355328 := by omega
    rw [Int.natCast_mul, Int.mul_comm] at this
    omega
  have hr := Go.run_make (P := P) w t el ie z hu hie q2 k k' (l : Int) (l : Int) (by omega) (Int.le_refl _) hwl (by omega)
  simp only [Int.toNat_natCast] at hr
  subst hsz
  exact ⟨_, hr, (made_cells (n := l) q3 hl h1 (fun _ => none) nob).1, fun M β => (made_cells (n := l) q3 hl h1 M β).2⟩

theorem msl_ok {asLit : Bool} {n c : Opd} {e bytes : Nat} {ag : Bool} {zs : List D} (hm : matOp P o.op (.msl asLit n c e bytes ag zs) = true) (hi : Inv β M H w) (he : HE M β a E (IOp.tmps (.msl asLit n c e bytes ag zs))) :
    OpOk P o a w β M H (iev cx (.msl asLit n c e bytes ag zs) E H) := by
  obtain ⟨dst, op', ty, pos, after, guard⟩ := o
  simp only [iev]
  simp only [IOp.tmps] at he
  simp only [matOp] at hm
  split at hm
  · rename_i t n' c'
    simp only [Bool.and_eq_true] at hm
    obtain ⟨⟨⟨⟨⟨h1, h2⟩, h3⟩, h4⟩, h5⟩, h6⟩ := hm
    obtain ⟨el, hu, ht⟩ := sliceOk_spec h3
    have h4 := Nat.eq_of_beq_eq_true h4
    have h5 := Nat.le_of_ble_eq_true h5
    have hel : elemT P t = some el := by simp [elemT, hu]
    rw [hel] at h6
    simp only [] at h6
    split
    · rename_i d1 d2 hx hy
      split
      · rename_i l m hl hm'
        split
        · trivial
        · rename_i hb
          simp only [Bool.and_eq_true] at hb
          obtain ⟨⟨hb1, hb2⟩, hb3⟩ := hb
          obtain rfl := Nat.eq_of_beq_eq_true hb1
          have hb2 := Nat.le_of_ble_eq_true hb2
          have hb3 := Nat.le_of_ble_eq_true hb3
          obtain ⟨k, i, q1, q2, q3⟩ := idx_spec hl (opd_sound h1 (he_l he) hx)
          obtain ⟨k', i', q4, q5, q6⟩ := idx_spec hm' (opd_sound h2 (he_r he) hy)
          have ei : i = (l : Int) := by omega
          have ei' : i' = (l : Int) := by omega
          subst ei ei'
          obtain ⟨cells, g1, g2, g3⟩ := run_make hu ht h6 h4 h5 k k' l hb2 hb3 w
          have hlen : (reps zs l).length = l * e := by rw [reps_length, h4]
          split
          · obtain ⟨g6, g7⟩ := new_block (opn := false) (xs := reps zs l) (cs := cells) (e := el) hi (by omega) (fun _ => g2.symm) (g3 M β)
            exact ok_value (v := .slice (some ⟨w.heap.size, 0, none⟩) l l) (by simp [execOp, q1, q4, g1]) g7 g6 (VV_sl_new (Beta.put_same _ _ _) (by omega) h5)
          · obtain ⟨g6, g7⟩ := mem_block (cs := cells) (e := el) hi
            split
            · rename_i hag
              simp only [Bool.or_eq_true, Bool.and_eq_true, List.all_eq_true, Bool.not_eq_true'] at hag
              refine ok_value (v := .slice (some ⟨w.heap.size, 0, none⟩) l l) (by simp [execOp, q1, q4, g1]) g7 g6 (VV_lit_new (Mem.put_same _ _ _) (by omega) (by omega) ?_ (g3 _ _))
              rcases hag with h | h
              · exact .inl h
              · exact .inr ⟨Nat.eq_of_beq_eq_true h.1, h.2⟩
            · trivial
      · trivial
    · trivial
  · cases hm

/-! ### floats' bits -/
end
end Go.Mini
