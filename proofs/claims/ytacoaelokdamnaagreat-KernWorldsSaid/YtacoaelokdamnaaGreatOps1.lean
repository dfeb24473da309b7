/- The operations: what the interpreter says of one is what the machine does. Part 1: values, cells. -/
import Derived.Test.YtacoaelokdamnaaGreatMat
set_option linter.all false
set_option linter.unusedSimpArgs false
set_option linter.unusedVariables false
namespace Go.Mini

section
variable {P : Program} {cx : Cx} {β : Beta} {M : Mem} {H : Heap} {w : World} {a : Act} {E : Env} {o : Oper}

/-- The temporaries of a set stand for what is known of them. -/
def HE (M : Mem) (β : Beta) (a : Act) (E : Env) (S : List Nat) : Prop := ∀ t d, t ∈ S → look t E = some d → VV M β d (a.tmps.getD t undef)
theorem HE.sub {S T : List Nat} (h : HE M β a E S) (hs : ∀ t ∈ T, t ∈ S) : HE M β a E T := fun t d ht => h t d (hs t ht)

theorem opd_sound {x : Operand} {y : Opd} (hm : matOpd x y = true) (he : HE M β a E y.tmps) {d : D} (hd : y.ev E = some d) : VV M β d (a.eval x) := by
  unfold matOpd at hm
  split at hm
  · have := Nat.eq_of_beq_eq_true hm
    subst this
    simp only [Opd.ev] at hd
    exact he _ d (by simp [Opd.tmps]) hd
  · simp only [Opd.ev, Option.some.injEq] at hd
    subst hd
    exact (constOk_spec hm M β).1
  · have := Nat.eq_of_beq_eq_true hm
    subst this
    simp only [Opd.ev, Option.some.injEq] at hd
    subst hd
    refine ⟨rfl, ?_⟩
    simp only [VF, VT, Value.cells, Act.eval]
    exact ⟨#[], #[], rfl, rfl, rfl⟩
  · cases hm

/-- What is owed for one operation. -/
def OpOk (P : Program) (o : Oper) (a : Act) (w : World) (β : Beta) (M : Mem) (H : Heap) : Rs (D × Heap) → Prop
  | .ok (d, H') => ∀ (next : Act → World → Prop) (Q : Exit → Act → World → Prop),
      (∀ v β' M' w', Step H β M w H' β' M' w' → Inv β' M' H' w' → VV M' β' d v → next (a.put o.dst v) w') → o.wp P a w next Q
  | .pan d H' => ∀ (next : Act → World → Prop) (Q : Exit → Act → World → Prop),
      (∀ v β' M' w', Step H β M w H' β' M' w' → Inv β' M' H' w' → VV M' β' d v → Q (.panic [{ v, recovered := false }]) a w') → o.wp P a w next Q
  | .no => True

theorem ok_value {v : Value} {d : D} {H' : Heap} {β' : Beta} {M' : Mem} {w' : World} (hr : (execOp a.eval o).run P w = .ok (.value v) w') (hs : Step H β M w H' β' M' w')
    (hi : Inv β' M' H' w') (hv : VV M' β' d v) : OpOk P o a w β M H (.ok (d, H')) := by
  intro next Q h
  unfold Oper.wp
  rw [hr]
  exact h v β' M' w' hs hi hv

theorem ok_same {v : Value} {d : D} {w' : World} (hi : Inv β M H w) (hr : (execOp a.eval o).run P w = .ok (.value v) w') (hg : Grew w w') (hv : VV M β d v) : OpOk P o a w β M H (.ok (d, H)) :=
  ok_value hr (Step.grew H β M hg) (hi.grew hg) hv

theorem ok_skip {H' : Heap} {β' : Beta} {M' : Mem} {w' : World} (hr : (execOp a.eval o).run P w = .ok .skip w') (hs : Step H β M w H' β' M' w') (hi : Inv β' M' H' w') :
    OpOk P o a w β M H (.ok (.tup [], H')) := by
  intro next Q h
  unfold Oper.wp
  rw [hr]
  refine h undef β' M' w' hs hi ⟨rfl, ?_⟩
  simp only [VF, VT, Value.cells, undef]
  exact ⟨#[], rfl, rfl⟩

theorem ofV_ok {x : Option D} (h : ∀ d, x = some d → OpOk P o a w β M H (.ok (d, H))) : OpOk P o a w β M H (Rs.ofV H x) := by
  cases x with
  | none => trivial
  | some d => exact h d rfl

theorem VV_int {k : IntKind} {n : Int} : VV M β (.s (.int k n)) (.int k n) := VV_s rfl M β
theorem VV_bool {b : Bool} : VV M β (.s (.bool b)) (.bool b) := VV_s rfl M β
theorem VV_string {b : ByteArray} : VV M β (.s (.string b)) (.string b) := VV_s rfl M β
/-- A scalar stands for itself. -/
theorem VV_s_inv {u v : Value} (h : VV M β (.s u) v) : v = u ∧ atom u = true := by
  have := VV_nonagg h rfl
  simp only [VF, List.cons.injEq, and_true] at this
  exact this

/-! ### Types -/
theorem tsz_spec {t : TypeId} {n b : Nat} {ag : Bool} (h : tsz P t = some (n, b, ag)) : ∃ i d, P.info? t = some i ∧ P.underlying t = some d ∧ i.size = n ∧ i.bytes = b ∧ aggD d = ag := by
  unfold tsz at h
  split at h
  · rename_i i d h1 h2
    simp only [Option.some.injEq, Prod.mk.injEq] at h
    exact ⟨i, d, h1, h2, h.1, h.2.1, h.2.2⟩
  · cases h

theorem run_sizeOf' {t : TypeId} {n b : Nat} {ag : Bool} (h : tsz P t = some (n, b, ag)) (w : World) : (sizeOf t).run P w = .ok n w := by
  obtain ⟨i, d, h1, h2, h3, _, _⟩ := tsz_spec h
  simp [sizeOf, typeInfo, h1, h3]

theorem run_isAgg' {t : TypeId} {n b : Nat} {ag : Bool} (h : tsz P t = some (n, b, ag)) (w : World) : (isAgg t).run P w = .ok ag w := by
  obtain ⟨i, d, h1, h2, h3, _, h5⟩ := tsz_spec h
  cases d <;> simp_all [isAgg, run_underlying h2, aggD]

/-! ### Cells -/
theorem cell_at {blk i : Nat} {cs : Array Value} {e : TypeId} {fr : Nat × Nat} (h : w.heap[blk]? = some (.cells cs e fr)) : w.cell? ⟨blk, i, none⟩ = cs[i]? := by
  simp [World.cell?, h]

theorem addr_add (blk o n : Nat) : (⟨blk, o, none⟩ : Addr).add n = ⟨blk, o + n, none⟩ := by
  unfold Addr.add; split <;> simp_all

theorem run_load1 {blk i : Nat} {cs : Array Value} {e : TypeId} {fr : Nat × Nat} {v : Value} (h : w.heap[blk]? = some (.cells cs e fr)) (hv : cs[i]? = some v) : (load ⟨blk, i, none⟩).run P w = .ok v w := by
  simp [load, Sem.run, cell_at h, hv]

theorem run_loadCells' {blk o n : Nat} {cs : Array Value} {e : TypeId} {fr : Nat × Nat} (h : w.heap[blk]? = some (.cells cs e fr)) (ho : o + n ≤ cs.size) :
    (loadCells ⟨blk, o, none⟩ n).run P w = .ok ((cs.toList.drop o).take n).toArray w := by
  have hl : ((cs.toList.drop o).take n).length = n := by rw [List.length_take, List.length_drop, Array.length_toList]; omega
  have := run_loadCells_list (P := P) w ⟨blk, o, none⟩ ((cs.toList.drop o).take n) (fun j v hj => by
    rw [addr_add, cell_at h]
    rw [List.getElem?_take] at hj
    split at hj
    · rw [List.getElem?_drop] at hj
      simpa using hj
    · cases hj)
  rw [hl] at this
  exact this

/-- n cells, read as a value of a type. -/
theorem run_loadVar' {t : TypeId} {n b blk oo : Nat} {ag : Bool} {cs : Array Value} {e : TypeId} {fr : Nat × Nat} {xs : List D} {d : D} {β' : Beta} (ht : tsz P t = some (n, b, ag)) (h1 : ag = false → n = 1)
    (hg : w.heap[blk]? = some (.cells cs e fr)) (hxs : xs.length = n) (ho : oo + n ≤ cs.size) (hv : VE M xs β' 1 (cs.toList.drop oo)) (hd : asVal xs n ag = some d) :
    ∃ v, (loadVar t ⟨blk, oo, none⟩).run P w = .ok v w ∧ VV M β' d v := by
  unfold asVal at hd
  cases ag with
  | true =>
    simp only [] at hd
    split at hd
    · cases hd
      refine ⟨.agg ((cs.toList.drop oo).take n).toArray, ?_, ?_⟩
      · simp [loadVar, run_isAgg' ht, run_sizeOf' ht, run_loadCells' hg ho]
      · refine VV_agg (by simp; omega) ?_
        simpa using VE_prefix (n := n) (by omega) hv
    · cases hd
  | false =>
    obtain rfl := h1 rfl
    simp only [] at hd
    split at hd
    · rename_i x
      split at hd
      · rename_i hx
        cases hd
        have hlt : oo < cs.size := by omega
        obtain ⟨v, r, h2, _, h3, _⟩ := VE_one_cons.1 hv
        have hv0 : cs[oo]? = some v := by
          have : (cs.toList.drop oo)[0]? = some v := by rw [h2]; rfl
          rw [List.getElem?_drop] at this
          simpa using this
        have hc : w.cell? ⟨blk, oo, none⟩ = some v := (cell_at hg).trans hv0
        exact ⟨v, by simp [loadVar, run_isAgg' ht, hc], VV_cell h3 hx⟩
      · cases hd
    · cases hd

theorem VV_ptr {b off : Nat} {v : Value} (h : VV M β (.ptr b off) v) : ∃ blk sh C, v = .pointer (some ⟨blk, sh + off, none⟩) ∧ β b = some (blk, sh, C) := by
  have := VV_nonagg h rfl
  simp only [VF, List.cons.injEq, and_true] at this
  exact this
theorem VV_rp {bo : Bool} {x : D} {off : Nat} {v : Value} (h : VV M β (.rp bo x off) v) : ∃ blk o bo' cs, v = .pointer (some ⟨blk, o + off, none⟩) ∧ M blk = some (bo', cs) ∧ (bo' = true → bo = true) ∧
    o + x.flat.length ≤ cs.size ∧ VF M x nob ((cs.toList.drop o).take x.flat.length) := by
  have := VV_nonagg h rfl
  simp only [VF, List.cons.injEq, and_true] at this
  obtain ⟨blk, off', bo', cs, e, h1, h2, h3, h4, h5, h6⟩ := this
  subst h5
  exact ⟨blk, off', bo', cs, h1, h2, h3, h4, h6⟩

/-- A load. -/
theorem run_ldp {t : TypeId} {n b : Nat} {ag : Bool} {p d : D} {v : Value} (hi : Inv β M H w) (ht : tsz P t = some (n, b, ag)) (h1 : ag = false → n = 1) (hp : VV M β p v) (hd : ldp H p n ag = some d) :
    ∃ u, (Instr.loadAt t v).run P w = .ok u w ∧ VV M β d u := by
  have hlen : ∀ {xs : List D}, asVal xs n ag = some d → xs.length = n := by
    intro xs hx
    unfold asVal at hx
    cases ag with
    | true =>
      simp only [] at hx
      split at hx
      · rename_i hb; exact Nat.eq_of_beq_eq_true hb
      · cases hx
    | false =>
      obtain rfl := h1 rfl
      simp only [] at hx
      split at hx
      · rfl
      · cases hx
  unfold ldp at hd
  split at hd
  · rename_i bo x oo
    obtain ⟨blk, off, bo', cs, rfl, hM, _, hs, hv⟩ := VV_rp hp
    obtain ⟨e, fr, hg⟩ := hi.mem blk bo' cs hM
    have hl := hlen hd
    rw [List.length_take, List.length_drop] at hl
    by_cases hn : n = 0
    · subst hn
      cases ag with
      | false => cases h1 rfl
      | true =>
        simp only [List.take_zero, asVal] at hd
        simp at hd
        subst hd
        exact ⟨.agg #[], by simp [Instr.loadAt, Instr.sureAddr, loadVar, run_isAgg' ht, run_sizeOf' ht, loadCells, loadCellsFrom], VV_agg rfl VE_nil⟩
    have hve : VE M ((x.flat.drop oo).take n) nob 1 (cs.toList.drop (off + oo)) := by
      have h2 := VE_flat hv
      have h3 := VE_drop oo h2 (by omega)
      rw [Nat.mul_one, List.drop_take, List.drop_drop] at h3
      refine VE_take n (VE_of_prefix (n := x.flat.length - oo) (by rw [List.length_drop]; omega) h3)
    obtain ⟨u, h2, h3⟩ := run_loadVar' (xs := (x.flat.drop oo).take n) ht h1 hg (hlen hd) (by omega) hve hd
    refine ⟨u, ?_, h3.mono M.le_refl (nob_le β)⟩
    simp [Instr.loadAt, Instr.sureAddr, h2]
  · rename_i b' oo
    split at hd
    · rename_i opn xs hc
      obtain ⟨blk, sh, C, rfl, hβ⟩ := VV_ptr hp
      obtain ⟨hM, cs, e, hg, hC, hsh, _, hve⟩ := hi.live b' blk sh C opn xs hβ (cellsOf_some hc)
      have hl := hlen hd
      rw [List.length_take, List.length_drop] at hl
      have hve' : VE M ((xs.drop oo).take n) β 1 (cs.toList.drop (sh + oo)) := by
        by_cases hoo : oo ≤ xs.length
        · have h3 := VE_drop oo hve hoo
          rw [Nat.mul_one, List.drop_drop] at h3
          exact VE_take n h3
        · rw [List.drop_eq_nil_of_le (by omega), List.take_nil]; exact VE_nil
      by_cases hn : n = 0
      · subst hn
        cases ag with
        | false => cases h1 rfl
        | true =>
          simp only [List.take_zero, asVal] at hd
          simp at hd
          subst hd
          exact ⟨.agg #[], by simp [Instr.loadAt, Instr.sureAddr, loadVar, run_isAgg' ht, run_sizeOf' ht, loadCells, loadCellsFrom], VV_agg rfl VE_nil⟩
      · obtain ⟨u, h2, h3⟩ := run_loadVar' (xs := (xs.drop oo).take n) ht h1 hg (hlen hd) (by omega) hve' hd
        exact ⟨u, by simp [Instr.loadAt, Instr.sureAddr, h2], h3⟩
    · cases hd
  · cases hd

/-- Cells that may be stored. -/
theorem oneCell_of {x : D} {β' : Beta} {v : Value} (h : VF M x β' [v]) (hc : D.cell x = true) : v.oneCell' = true := by
  cases x <;> simp only [D.cell, Bool.false_eq_true] at hc <;> simp only [VF] at h
  case s u => obtain ⟨h1, h2⟩ := h; cases h1; cases v <;> simp_all [atom, Value.oneCell']
  case lit => obtain ⟨_, _, _, h1, _⟩ := h; cases h1; rfl
  case rp => obtain ⟨_, _, _, _, _, h1, _⟩ := h; cases h1; rfl
  case sl => obtain ⟨_, _, _, _, h1, _⟩ := h; cases h1; rfl
  case ptr => obtain ⟨_, _, _, h1, _⟩ := h; cases h1; rfl
  case fn => obtain ⟨_, _, h1, _⟩ := h; cases h1; rfl
  case ifc => obtain ⟨_, h1, _⟩ := h; cases h1; rfl
  case mp => obtain ⟨_, _, _, h1, _⟩ := h; cases h1; rfl
  case unk u p => obtain ⟨n, h1, _⟩ := h; cases h1; cases u <;> rfl

theorem oneCells_of : ∀ {xs : List D} {β' : Beta} {vs : List Value}, vs.length = xs.length → VE M xs β' 1 vs → xs.all D.cell = true → ∀ v ∈ vs, v.oneCell' = true
  | [], _, vs, hl, _, _ => by intro v hv; have := List.eq_nil_of_length_eq_zero hl; subst this; cases hv
  | x :: xs, β', vs, hl, h, hc => by
    obtain ⟨v, r, rfl, _, h2, h3⟩ := VE_one_cons.1 h
    simp only [List.all_cons, Bool.and_eq_true] at hc
    intro u hu
    rcases List.mem_cons.1 hu with rfl | hu
    · exact oneCell_of h2 hc.1
    · exact oneCells_of (by simpa using hl) h3 hc.2 u hu

/-- Cells are stored. -/
theorem run_setCells {b o' : Nat} {ys : List D} {H' : Heap} {blk sh C : Nat} {vs : List Value} (hi : Inv β M H w) (hβ : β b = some (blk, sh, C)) (hs : setCells H b o' ys = some H') (hl : vs.length = ys.length)
    (hv : VE M ys β 1 vs) : ∃ w', (storeCells ⟨blk, sh + o', none⟩ vs).run P w = .ok () w' ∧ Step H β M w H' β M w' ∧ Inv β M H' w' := by
  unfold setCells at hs
  split at hs
  · rename_i opn xs hc
    split at hs
    · rename_i hb
      simp only [Bool.and_eq_true] at hb
      obtain ⟨hb1, hb2⟩ := hb
      have hle := Nat.le_of_ble_eq_true hb1
      cases hs
      have hb' := cellsOf_some hc
      obtain ⟨hM, cs, e, hg, hC, hsh, _, hve⟩ := hi.live b blk sh C opn xs hβ hb'
      have hst := run_storeCells_at P blk (sh + o') e vs 0 cs w hg (by omega) (oneCells_of hl hv hb2)
      simp only [Nat.add_zero] at hst
      obtain ⟨h1, h2⟩ := write_inv hi hb' hβ hg hle hl hv
      exact ⟨_, hst, h2, h1⟩
    · cases hs
  · cases hs

theorem run_stp {t : TypeId} {n b : Nat} {ag : Bool} {p x : D} {v u : Value} {H' : Heap} (hi : Inv β M H w) (ht : tsz P t = some (n, b, ag)) (hp : VV M β p v) (hx : VV M β x u) (hs : stp H p x n = some H') :
    ∃ w', (Instr.storeAt t v u).run P w = .ok () w' ∧ Step H β M w H' β M w' ∧ Inv β M H' w' := by
  unfold stp at hs
  split at hs
  · rename_i b' oo
    split at hs
    · rename_i hn
      have hn := Nat.eq_of_beq_eq_true hn
      obtain ⟨blk, sh, C, rfl, hβ⟩ := VV_ptr hp
      have hl := VF_len _ hx.2
      obtain ⟨w', h1, h2, h3⟩ := run_setCells (P := P) hi hβ hs hl (VE_flat hx.2)
      refine ⟨w', ?_, h2, h3⟩
      have hsz : u.cells.size = n := by rw [← hn, ← hl]; simp
      simp [Instr.storeAt, Instr.sureAddr, storeVar, run_sizeOf' ht, hsz, h1]
    · cases hs
  · cases hs

end
end Go.Mini
