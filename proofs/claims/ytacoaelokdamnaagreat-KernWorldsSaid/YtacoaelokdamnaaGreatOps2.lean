/- The operations, part 2: those on values. -/
import Derived.Test.YtacoaelokdamnaaGreatOps1
set_option linter.all false
set_option linter.unusedSimpArgs false
set_option linter.unusedVariables false
namespace Go.Mini

section
variable {P : Program} {cx : Cx} {β : Beta} {M : Mem} {H : Heap} {w : World} {a : Act} {E : Env} {o : Oper}

theorem he_l {S T : List Nat} (h : HE M β a E (S ++ T)) : HE M β a E S := h.sub fun _ ht => List.mem_append_left _ ht
theorem he_r {S T : List Nat} (h : HE M β a E (S ++ T)) : HE M β a E T := h.sub fun _ ht => List.mem_append_right _ ht

theorem mov_ok {y : Opd} (hm : matOp P o.op (.mov y) = true) (hi : Inv β M H w) (he : HE M β a E (IOp.tmps (.mov y))) : OpOk P o a w β M H (iev cx (.mov y) E H) := by
  obtain ⟨dst, op, ty, pos, after, guard⟩ := o
  simp only [iev]
  refine ofV_ok fun d hd => ?_
  simp only [IOp.tmps] at he
  simp only [matOp] at hm
  split at hm
  · exact ok_same (w' := w) hi (by simp [execOp]) (Grew.refl w) (opd_sound hm he hd)
  · exact ok_same (w' := w) hi (by simp [execOp]) (Grew.refl w) (opd_sound hm he hd)
  · cases hm

theorem pick_ok {x y z : Opd} (hm : matOp P o.op (.pick x y z) = true) (hi : Inv β M H w) (he : HE M β a E (IOp.tmps (.pick x y z))) : OpOk P o a w β M H (iev cx (.pick x y z) E H) := by
  obtain ⟨dst, op, ty, pos, after, guard⟩ := o
  simp only [iev]
  simp only [IOp.tmps] at he
  simp only [matOp] at hm
  split at hm
  · simp only [Bool.and_eq_true] at hm
    obtain ⟨⟨h1, h2⟩, h3⟩ := hm
    split
    · rename_i hc
      have := (VV_s_inv (opd_sound h1 (he_l (he_l he)) hc)).1
      refine ofV_ok fun d hd => ?_
      exact ok_same (w' := w) hi (by simp [execOp, this, asBool]) (Grew.refl w) (opd_sound h2 (he_r (he_l he)) hd)
    · rename_i hc
      have := (VV_s_inv (opd_sound h1 (he_l (he_l he)) hc)).1
      refine ofV_ok fun d hd => ?_
      exact ok_same (w' := w) hi (by simp [execOp, this, asBool]) (Grew.refl w) (opd_sound h3 (he_r he) hd)
    · trivial
  · cases hm

theorem zeroOk_spec {t : TypeId} {zs : List D} (h : zeroOk P t zs = true) : ∃ i z, P.info? t = some i ∧ i.zero = some z ∧ zsOk z.cells.toList zs = true := by
  unfold zeroOk at h
  split at h
  · rename_i i hi
    split at h
    · rename_i z hz; exact ⟨i, z, hi, hz, h⟩
    · cases h
  · cases h

theorem VV_new {b off blk sh C : Nat} (h : β b = some (blk, sh, C)) : VV M β (.ptr b off) (.pointer (some ⟨blk, sh + off, none⟩)) := by
  refine ⟨rfl, ?_⟩
  simp only [VF, Value.cells]
  exact ⟨blk, sh, C, rfl, h⟩

theorem run_new (o : Obj) (w : World) : (newObj o).run P w = .ok w.heap.size (w.alloc o) := rfl
theorem run_row (e : TypeId) (cs : Array Value) (w : World) : (newRow e cs).run P w = .ok ⟨w.heap.size, 0, none⟩ (w.alloc (.cells cs e)) := by
  simp [newRow, run_new]
theorem zs_size {i : Value} {zs : List D} (h : i.cells.toList.length = zs.length) : zs.length = i.cells.size := by simpa using h.symm

theorem alloc_ok {zs : List D} (hm : matOp P o.op (.alloc zs) = true) (hi : Inv β M H w) : OpOk P o a w β M H (iev cx (.alloc zs) E H) := by
  obtain ⟨dst, op, ty, pos, after, guard⟩ := o
  simp only [iev]
  simp only [matOp] at hm
  split at hm
  · rename_i t
    obtain ⟨i, z, h1, h2, h3⟩ := zeroOk_spec hm
    obtain ⟨h4, h5⟩ := zsOk_spec h3 M β
    have hz := zs_size h4
    obtain ⟨h6, h7⟩ := new_block (opn := false) (xs := zs) (cs := z.cells) (e := t) hi (by omega) (fun _ => hz) h5
    refine ok_value (v := .pointer (some ⟨w.heap.size, 0, none⟩)) ?_ h7 h6 ?_
    · simp [execOp, Instr.alloc, zeroValue, typeInfo, h1, h2, newVar, run_row]
    · exact VV_new (off := 0) (Beta.put_same _ _ _)
  · cases hm

theorem box_ok {x : Opd} (hm : matOp P o.op (.box x) = true) (hi : Inv β M H w) (he : HE M β a E (IOp.tmps (.box x))) : OpOk P o a w β M H (iev cx (.box x) E H) := by
  obtain ⟨dst, op, ty, pos, after, guard⟩ := o
  simp only [iev]
  simp only [IOp.tmps] at he
  simp only [matOp] at hm
  split at hm
  · rename_i t y
    split
    · rename_i d hd
      have hv := opd_sound hm he hd
      have hl := VF_len _ hv.2
      have hl' : (a.eval y).cells.size = d.flat.length := by simpa using hl
      obtain ⟨h6, h7⟩ := new_block (opn := false) (xs := d.flat) (cs := (a.eval y).cells) (e := t) hi (by omega) (fun _ => by omega) (VE_flat hv.2)
      refine ok_value (v := .pointer (some ⟨w.heap.size, 0, none⟩)) ?_ h7 h6 ?_
      · simp [execOp, Instr.box, newVar, run_row]
      · exact VV_new (off := 0) (Beta.put_same _ _ _)
    · trivial
  · cases hm

theorem load_ok {p : Opd} {n : Nat} {ag : Bool} (hm : matOp P o.op (.load p n ag) = true) (hi : Inv β M H w) (he : HE M β a E (IOp.tmps (.load p n ag))) : OpOk P o a w β M H (iev cx (.load p n ag) E H) := by
  obtain ⟨dst, op, ty, pos, after, guard⟩ := o
  simp only [iev]
  simp only [IOp.tmps] at he
  simp only [matOp] at hm
  split at hm
  · rename_i t x
    split at hm
    · rename_i m b a' ht
      simp only [Bool.and_eq_true, Bool.or_eq_true, beq_iff_eq] at hm
      obtain ⟨⟨⟨h1, h2⟩, rfl⟩, h4⟩ := hm
      obtain rfl := Nat.eq_of_beq_eq_true h2
      split
      · rename_i d hd
        refine ofV_ok fun u hu => ?_
        obtain ⟨v, h5, h6⟩ := run_ldp (P := P) hi ht (fun h => by rcases h4 with h4 | h4; · rw [h] at h4; cases h4
                                                                  · exact Nat.eq_of_beq_eq_true h4) (opd_sound h1 he hd) hu
        exact ok_same (w' := w) hi (by simp [execOp, h5]) (Grew.refl w) h6
      · trivial
    · cases hm
  · cases hm

theorem store_ok {p x : Opd} {n : Nat} (hm : matOp P o.op (.store p x n) = true) (hi : Inv β M H w) (he : HE M β a E (IOp.tmps (.store p x n))) : OpOk P o a w β M H (iev cx (.store p x n) E H) := by
  obtain ⟨dst, op, ty, pos, after, guard⟩ := o
  simp only [iev]
  simp only [IOp.tmps] at he
  simp only [matOp] at hm
  split at hm
  · rename_i t p' x'
    split at hm
    · rename_i m b a' ht
      simp only [Bool.and_eq_true] at hm
      obtain ⟨⟨h1, h2⟩, h3⟩ := hm
      obtain rfl := Nat.eq_of_beq_eq_true h3
      split
      · rename_i d y hd hy
        split
        · rename_i H' hs
          obtain ⟨w', h5, h6, h7⟩ := run_stp (P := P) hi ht (opd_sound h1 (he_l he) hd) (opd_sound h2 (he_r he) hy) hs
          exact ok_skip (by simp [execOp, h5]) h6 h7
        · trivial
      · trivial
    · cases hm
  · cases hm

theorem nck_ok {x : Opd} (hm : matOp P o.op (.nck x) = true) (hi : Inv β M H w) (he : HE M β a E (IOp.tmps (.nck x))) : OpOk P o a w β M H (iev cx (.nck x) E H) := by
  obtain ⟨dst, op, ty, pos, after, guard⟩ := o
  simp only [iev]
  simp only [IOp.tmps] at he
  simp only [matOp] at hm
  split at hm
  · rename_i y
    split
    · rename_i b oo hd
      have hv := opd_sound hm he hd
      obtain ⟨blk, sh, C, h1, _⟩ := VV_ptr hv
      exact ok_same (w' := w) hi (by simp [execOp, h1]) (Grew.refl w) (h1 ▸ hv)
    · rename_i b z oo hd
      have hv := opd_sound hm he hd
      obtain ⟨blk, sh, C, cs, h1, _⟩ := VV_rp hv
      exact ok_same (w' := w) hi (by simp [execOp, h1]) (Grew.refl w) (h1 ▸ hv)
    · trivial
  · cases hm

theorem intBin_run {op : BinOp} {k : IntKind} {x y : Int} {v : Value} (h : intBin op k x y = some v) (h1 : op ≠ .shl) (h2 : op ≠ .shr) (t : TypeId) (w : World) :
    (binOp op t (.int k x) (.int k y)).run P w = .ok v w ∧ atom v = true := by
  unfold intBin at h
  split at h
  case h_4 =>
    split at h
    · cases h
    · rename_i hb
      have hb : ¬ y = 0 := by simpa using hb
      cases h
      simp [binOp, Op.intDiv, hb, atom]
  case h_5 =>
    split at h
    · cases h
    · rename_i hb
      have hb : ¬ y = 0 := by simpa using hb
      cases h
      simp [binOp, Op.intDiv, hb, atom]
  all_goals first
    | (cases h; done)
    | (cases h; simp [binOp, Op.intArith, Op.intBits, Op.intCmp, atom])

theorem run_eqGuard_atom {op : BinOp} {t : TypeId} {xo yo : Operand} {x y : Value} (hx : x ≠ .nilIface) (hx' : vAgg x = false) (w : World) : (eqGuard op t xo yo x y).run P w = .ok () w := by
  unfold eqGuard
  by_cases h : (match op with | .eql => false | .neq => false | _ => true) = true
  · cases op <;> simp_all
  · cases x <;> cases op <;> simp_all [vAgg]

theorem binV_run {op : BinOp} {x y v : Value} (h : binV op x y = some v) (t : TypeId) (w : World) : (binOp op t x y).run P w = .ok v w ∧ atom v = true := by
  unfold binV at h
  split at h
  · rename_i k x k' y
    split at h
    · split at h
      · cases h
      · rename_i hb
        have hb : ¬ y < 0 := by simpa using hb
        cases h
        simp [binOp, Op.shift, hb, atom]
    · split at h
      · cases h
      · rename_i hb
        have hb : ¬ y < 0 := by simpa using hb
        cases h
        simp [binOp, Op.shift, hb, atom]
    · rename_i h1 h2
      split at h
      · rename_i hk
        have hk : k = k' := by simpa using hk
        subst hk
        exact intBin_run h (fun e => h1 e) (fun e => h2 e) t w
      · cases h
  · split at h
    · cases h; simp [binOp, Op.stringOp, atom]
    · cases h; simp [binOp, Op.stringOp, atom]
    · cases h
  · cases h

end
end Go.Mini
