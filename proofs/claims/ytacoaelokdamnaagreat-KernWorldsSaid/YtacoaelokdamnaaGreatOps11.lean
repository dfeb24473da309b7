/- The operations, part 11: bytes as a string; floats. -/
import Derived.Test.YtacoaelokdamnaaGreatOps10
import Derived.Laws.IdiomStrings
set_option linter.all false
set_option linter.unusedSimpArgs false
set_option linter.unusedVariables false
namespace Go.Mini

section
variable {P : Program} {cx : Cx} {β : Beta} {M : Mem} {H : Heap} {w : World} {a : Act} {E : Env} {o : Oper}

theorem byteList_VE : ∀ {xs : List D} {ns : List Int} {l : List Value}, byteList xs = some ns → l.length = xs.length → VE M xs β 1 l → l = ns.map (Value.int .u8) ∧ ns.length = xs.length
  | [], ns, l, h, hl, _ => by
    simp only [byteList, Option.some.injEq] at h
    subst h
    exact ⟨by simpa using hl, rfl⟩
  | x :: xs, ns, l, h, hl, hv => by
    unfold byteList at h
    split at h
    · rename_i hx; cases hx
    · rename_i n r hx
      cases hx
      split at h
      · rename_i l' hl'
        cases h
        obtain ⟨v, r, rfl, _, h2, h3⟩ := VE_one_cons.1 hv
        simp only [VF, List.cons.injEq, and_true] at h2
        obtain ⟨rfl, _⟩ := h2
        obtain ⟨h4, h5⟩ := byteList_VE hl' (by simpa using hl) h3
        exact ⟨by simp [h4], by simp [h5]⟩
      · cases h
    · cases h

theorem foldl_push : ∀ (ns : List Int) (r : ByteArray), ns.foldl (fun r n => r.push (UInt8.ofNat n.toNat)) r = ⟨r.data ++ (ns.map fun n => UInt8.ofNat n.toNat).toArray⟩
  | [], r => by simp
  | n :: ns, r => by
    rw [List.foldl_cons, foldl_push ns]
    simp [ByteArray.push]

theorem s2s_ok {x : Opd} (hm : matOp P o.op (.s2s x) = true) (hi : Inv β M H w) (he : HE M β a E (IOp.tmps (.s2s x))) : OpOk P o a w β M H (iev cx (.s2s x) E H) := by
  obtain ⟨dst, op', ty, pos, after, guard⟩ := o
  simp only [iev]
  simp only [IOp.tmps] at he
  simp only [matOp] at hm
  split at hm
  · rename_i s d y
    simp only [Bool.and_eq_true] at hm
    obtain ⟨h1, h2⟩ := hm
    split at h2
    · rename_i el hel
      split at h2
      · rename_i hu8 hstr
        have hu := elemT_spec hel
        split
        · rename_i dx hx
          split
          · rename_i xs hxs
            split
            · rename_i ns hns
              obtain ⟨ad, c, e1, hle, hat⟩ := elems_cells hi hxs (opd_sound h1 he hx)
              have hconv : (convert s d (a.eval y)).run P w = .ok (.string (strOf ns)) w := by
                rw [e1, run_convert_bytes_string w s d el ad xs.length c hu hu8 hstr]
                obtain ⟨l, g1, g2, g3⟩ := run_firstCells (P := P) (c := c) (k := xs.length) (Nat.le_refl _) hat
                rw [List.take_of_length_le (Nat.le_refl _)] at g3
                obtain ⟨g4, g5⟩ := byteList_VE hns (by omega) g3
                cases ad with
                | none =>
                  have hxe : xs = [] := by
                    rcases hat with h | ⟨_, _, _, _, _, h, _⟩
                    · exact h
                    · cases h
                  subst hxe
                  have : ns = [] := List.eq_nil_of_length_eq_zero (by simpa using g5)
                  subst this
                  simp only [Conv.bytesToString]
                  rfl
                | some ad =>
                  simp only [Builtin.firstCells, Nat.mul_one] at g1
                  rw [run_bytesToString w ad xs.length c ns (by rw [g1, g4]), foldl_push]
                  have he0 : ByteArray.empty.data = #[] := rfl
                  rw [he0, Array.empty_append]
                  rfl
              exact ok_same (w' := w) (v := .string (strOf ns)) hi (by simp [execOp, hconv]) (Grew.refl w) (VV_s rfl M β)
            · trivial
          · trivial
        · trivial
      · cases h2
    · cases h2
  · cases hm

theorem nan_cut (x y t : Nat) : NanB ((Question.nanBits .f64 x y).cut t) := by
  unfold NanB Question.cut
  simp only
  have h1 : t % 2 < 2 := Nat.mod_lt _ (by omega)
  have h2 : t / 2 % (2 ^ 52 - 1) < 2 ^ 52 - 1 := Nat.mod_lt _ (by omega)
  generalize t % 2 = s at h1
  generalize t / 2 % (2 ^ 52 - 1) = q at h2
  have hx : s * 2 ^ 63 + 0x7ff0000000000000 + 1 + q = (s * 2048 + 2047) * 2 ^ 52 + (1 + q) := by omega
  rw [hx]
  have h3 : ((s * 2048 + 2047) * 2 ^ 52 + (1 + q)) / 2 ^ 52 = s * 2048 + 2047 := by omega
  have h4 : ((s * 2048 + 2047) * 2 ^ 52 + (1 + q)) % 2 ^ 52 = 1 + q := by omega
  rw [h3, h4]
  omega

theorem flt_arith {op : BinOp} {x y : Nat} {r : Option Nat} (t : TypeId) (w : World)
    (h : (op = .add ∧ r = FloatKind.f64.format.add x y) ∨ (op = .sub ∧ r = FloatKind.f64.format.sub x y) ∨ (op = .mul ∧ r = FloatKind.f64.format.mul x y) ∨ (op = .quo ∧ r = FloatKind.f64.format.div x y)) :
    ∃ v w', (binOp op t (.float .f64 x) (.float .f64 y)).run P w = .ok v w' ∧ Grew w w' ∧ VV M β (fltR r) v := by
  cases r with
  | some b =>
    refine ⟨.float .f64 b, w, ?_, Grew.refl w, VV_s rfl M β⟩
    rcases h with ⟨rfl, h⟩ | ⟨rfl, h⟩ | ⟨rfl, h⟩ | ⟨rfl, h⟩ <;> simp [binOp, Op.floatArith, ← h]
  | none =>
    refine ⟨.float .f64 ((Question.nanBits .f64 x y).cut (w.tape w.drawn (.nanBits .f64 x y))), w.drew, ?_, Grew.drew w, ?_⟩
    · rcases h with ⟨rfl, h⟩ | ⟨rfl, h⟩ | ⟨rfl, h⟩ | ⟨rfl, h⟩ <;> simp [binOp, Op.floatArith, ← h, Question.forced]
    · refine ⟨rfl, ?_⟩
      simp only [fltR, VF, Value.cells]
      exact ⟨_, rfl, nan_cut _ _ _⟩

theorem flt_ok {op : BinOp} {x y : Opd} (hm : matOp P o.op (.flt op x y) = true) (hi : Inv β M H w) (he : HE M β a E (IOp.tmps (.flt op x y))) : OpOk P o a w β M H (iev cx (.flt op x y) E H) := by
  obtain ⟨dst, op', ty, pos, after, guard⟩ := o
  simp only [iev]
  simp only [IOp.tmps] at he
  simp only [matOp] at hm
  split at hm
  · rename_i b' t x' y' t'
    simp only [Bool.and_eq_true, decide_eq_true_eq] at hm
    obtain ⟨⟨rfl, h2⟩, h3⟩ := hm
    split
    · rename_i u v hx hy
      have e1 := (VV_s_inv (opd_sound h2 (he_l he) hx)).1
      have e2 := (VV_s_inv (opd_sound h3 (he_r he) hy)).1
      refine ofV_ok fun d hd => ?_
      have hg : (eqGuard b' t x' y' (.float .f64 u) (.float .f64 v)).run P w = .ok () w := run_eqGuard_atom (by simp) rfl w
      have key : ∃ r w', (binOp b' t (.float .f64 u) (.float .f64 v)).run P w = .ok r w' ∧ Grew w w' ∧ VV M β d r := by
        unfold fltD at hd
        split at hd
        · cases hd; exact flt_arith t w (.inl ⟨rfl, rfl⟩)
        · cases hd; exact flt_arith t w (.inr (.inl ⟨rfl, rfl⟩))
        · cases hd; exact flt_arith t w (.inr (.inr (.inl ⟨rfl, rfl⟩)))
        · cases hd; exact flt_arith t w (.inr (.inr (.inr ⟨rfl, rfl⟩)))
        · cases hd; exact ⟨_, w, by simp [binOp, Op.floatCmp], Grew.refl w, VV_s rfl M β⟩
        · cases hd; exact ⟨_, w, by simp [binOp, Op.floatCmp], Grew.refl w, VV_s rfl M β⟩
        · cases hd
      obtain ⟨r, w', k1, k2, k3⟩ := key
      exact ok_same (w' := w') (v := r) hi (by simp [execOp, e1, e2, hg, k1]) k2 k3
    · trivial
  · cases hm

end
end Go.Mini
