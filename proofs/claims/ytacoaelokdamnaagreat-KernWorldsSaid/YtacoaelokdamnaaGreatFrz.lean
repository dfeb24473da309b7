/- Live values as they read now. -/
import Derived.Test.YtacoaelokdamnaaGreatOps9
set_option linter.all false
set_option linter.unusedSimpArgs false
set_option linter.unusedVariables false
namespace Go.Mini
open Classical

/-- The memory that doesn't change, the live blocks' own with it. -/
noncomputable def Mz (bo : Bool) (β : Beta) (H : Heap) (w : World) (M : Mem) : Mem := fun blk =>
  match M blk with
  | some c => some c
  | none => if ∃ b sh C opn xs, β b = some (blk, sh, C) ∧ H[b]? = some (Blk.cells true opn xs) then
      (match w.heap[blk]? with
      | some (.cells cs _ _) => some (bo, cs)
      | _ => none)
    else none

variable {P : Program} {β : Beta} {M : Mem} {H : Heap} {w : World}

theorem Mz_le (bo : Bool) : M.le (Mz bo β H w M) := fun blk c h => by
  unfold Mz
  rw [h]

theorem Mz_live {bo : Bool} {b blk sh C : Nat} {opn : Bool} {xs : List D} {cs : Array Value} {e : TypeId} {fr : Nat × Nat} (hM : M blk = none) (h1 : β b = some (blk, sh, C)) (h2 : H[b]? = some (.cells true opn xs)) (hg : w.heap[blk]? = some (.cells cs e fr)) :
    Mz bo β H w M blk = some (bo, cs) := by
  unfold Mz
  rw [hM]
  simp only [hg]
  rw [if_pos ⟨b, sh, C, opn, xs, h1, h2⟩]

theorem Mz_new {bo : Bool} {blk : Nat} {c : Bool × Array Value} (h : Mz bo β H w M blk = some c) : M blk = some c ∨ (M blk = none ∧ c.1 = bo ∧ (∃ b sh C opn xs, β b = some (blk, sh, C) ∧ H[b]? = some (Blk.cells true opn xs)) ∧ ∃ e fr, w.heap[blk]? = some (.cells c.2 e fr)) := by
  unfold Mz at h
  split at h
  · rename_i c' hc
    cases h
    exact .inl hc
  · rename_i hM
    split at h
    · rename_i hex
      split at h
      · rename_i cs e fr hg
        cases h
        exact .inr ⟨hM, rfl, hex, e, fr, hg⟩
      · cases h
    · cases h

theorem Mz_inv {bo : Bool} (hi : Inv β M H w) : Inv nob (Mz bo β H w M) [] w where
  mem := fun blk b cs h => by
    rcases Mz_new h with h | ⟨_, _, _, e, fr, h⟩
    · exact hi.mem blk b cs h
    · exact ⟨e, fr, h⟩
  dom := fun b c h => by simp [nob] at h
  live := fun b blk sh C opn xs h => by simp [nob] at h
  inj := fun b b' c c' _ _ _ _ h => by simp [nob] at h

theorem optMap_length {f : D → Option D} : ∀ {xs ys : List D}, optMap f xs = some ys → ys.length = xs.length
  | [], ys, h => by simp only [optMap, Option.some.injEq] at h; subst h; rfl
  | x :: xs, ys, h => by
    simp only [optMap] at h
    split at h
    · cases h
    · split at h
      · cases h
      · rename_i ys' hys
        cases h
        simp [optMap_length hys]

theorem fz_shape {bo : Bool} : ∀ (n : Nat) {d d' : D}, fz bo H n d = some d' → d'.isAgg = d.isAgg ∧ d'.flat.length = d.flat.length
  | 0, d, d', h => by simp [fz] at h
  | n + 1, d, d', h => by
    simp only [fz] at h
    split at h
    · cases h; exact ⟨rfl, rfl⟩
    · cases h; exact ⟨rfl, rfl⟩
    · cases h; exact ⟨rfl, rfl⟩
    · split at h
      · rename_i ys hys
        cases h
        exact ⟨rfl, optMap_length hys⟩
      · cases h
    · split at h
      · cases h; exact ⟨rfl, rfl⟩
      · cases h
    · split at h
      · cases h; exact ⟨rfl, rfl⟩
      · cases h
    · split at h
      · cases h; exact ⟨rfl, rfl⟩
      · cases h
    · split at h
      · split at h
        · cases h; exact ⟨rfl, rfl⟩
        · cases h
      · cases h
    · split at h
      · split at h
        · cases h; exact ⟨rfl, rfl⟩
        · cases h
      · cases h
    · cases h
    · cases h; exact ⟨rfl, rfl⟩

theorem VE_optMap {f : D → Option D} {M' : Mem} {e : Nat} (hf : ∀ x y l, f x = some y → VF M x β l → VF M' y nob l) (hs : ∀ x y, f x = some y → y.flat.length = x.flat.length) : ∀ {xs ys : List D} {l : List Value}, optMap f xs = some ys → VE M xs β e l → VE M' ys nob e l
  | [], ys, l, h, _ => by simp only [optMap, Option.some.injEq] at h; subst h; exact VE_nil
  | x :: xs, ys, l, h, hv => by
    simp only [optMap] at h
    split at h
    · cases h
    · rename_i y hy
      split at h
      · cases h
      · rename_i ys' hys
        cases h
        simp only [VE] at hv ⊢
        exact ⟨hv.1, by rw [hs x y hy]; exact hv.2.1, hf x y _ hy hv.2.2.1, VE_optMap hf hs hys hv.2.2.2⟩

theorem VT_optMap {f : D → Option D} {M' : Mem} (hf : ∀ x y l, f x = some y → VF M x β l → VF M' y nob l) (hs : ∀ x y, f x = some y → y.isAgg = x.isAgg) : ∀ {xs ys : List D} {l : List Value}, optMap f xs = some ys → VT M xs β l → VT M' ys nob l
  | [], ys, l, h, hv => by simp only [optMap, Option.some.injEq] at h; subst h; simpa only [VT] using hv
  | x :: xs, ys, l, h, hv => by
    simp only [optMap] at h
    split at h
    · cases h
    · rename_i y hy
      split at h
      · cases h
      · rename_i ys' hys
        cases h
        simp only [VT] at hv ⊢
        obtain ⟨v, r, h1, h2, h3, h4⟩ := hv
        exact ⟨v, r, h1, by rw [hs x y hy]; exact h2, hf x y _ hy h3, VT_optMap hf hs hys h4⟩

theorem fz_VF {bo : Bool} (hi : Inv β M H w) : ∀ (n : Nat) (d d' : D) (l : List Value), fz bo H n d = some d' → VF M d β l → VF (Mz bo β H w M) d' nob l
  | 0, d, d', l, h, _ => by simp [fz] at h
  | n + 1, d, d', l, h, hv => by
    have ih := fz_VF (bo := bo) hi n
    have hle : M.le (Mz bo β H w M) := Mz_le bo
    have hsz : ∀ x y, fz bo H n x = some y → y.flat.length = x.flat.length := fun x y hx => (fz_shape n hx).2
    have hsa : ∀ x y, fz bo H n x = some y → y.isAgg = x.isAgg := fun x y hx => (fz_shape n hx).1
    simp only [fz] at h
    split at h
    · cases h; simpa only [VF] using hv
    · cases h
      have := VF_mono hle _ (β.le_refl) hv
      simpa only [VF] using this
    · cases h
      have := VF_mono hle _ (β.le_refl) hv
      simpa only [VF] using this
    · split at h
      · rename_i xs ys hys
        cases h
        simp only [VF] at hv ⊢
        exact ⟨by rw [optMap_length hys]; exact hv.1, VE_optMap ih hsz hys hv.2⟩
      · cases h
    · split at h
      · rename_i xs ys hys
        cases h
        simp only [VF] at hv ⊢
        obtain ⟨vs, h1, h2⟩ := hv
        exact ⟨vs, h1, VT_optMap ih hsa hys h2⟩
      · cases h
    · split at h
      · rename_i f a c a' c' ha hc
        cases h
        simp only [VF] at hv ⊢
        obtain ⟨vs, ws, h1, h2, h3⟩ := hv
        exact ⟨vs, ws, h1, VT_optMap ih hsa ha h2, VT_optMap ih hsa hc h3⟩
      · cases h
    · split at h
      · rename_i x _ y hy
        cases h
        simp only [VF] at hv ⊢
        obtain ⟨v, h1, h2, h3⟩ := hv
        exact ⟨v, h1, by rw [hsa x y hy]; exact h2, ih x y _ hy h3⟩
      · cases h
    · rename_i b off m esz ag cp
      split at h
      · rename_i xs hxs
        split at h
        · rename_i ys hys
          cases h
          simp only [VF] at hv
          obtain ⟨blk, sh, C, c, rfl, q2, q3, q4, q5, q6, q7⟩ := hv
          -- the elements' own law
          unfold elems at hxs
          simp only [] at hxs
          split at hxs
          · rename_i opn cells hc
            split at hxs
            · rename_i hb
              simp only [Bool.and_eq_true, beq_iff_eq, Bool.or_eq_true, List.all_eq_true, Bool.not_eq_true'] at hb
              obtain ⟨⟨_, hb3⟩, hb4⟩ := hb
              have hle2 := Nat.le_of_ble_eq_true hb3
              cases hxs
              obtain ⟨hM, cs, el, hg, hC, hsh, _, hve⟩ := hi.live b blk sh C opn cells q2 (cellsOf_some hc)
              have hd := VE_drop off hve (by omega)
              rw [Nat.mul_one, List.drop_drop] at hd
              have hch := VE_chunks ag (e := esz) (fun hf => (by
                rcases hb4 with h | h
                · rw [hf] at h; cases h
                · exact Nat.eq_of_beq_eq_true h.1)) m (by rw [List.length_drop]; omega) (fun hf x hx => (by
                rcases hb4 with h | h
                · rw [hf] at h; cases h
                · exact h.2 x (List.mem_of_mem_drop hx))) hd
              have hlen := optMap_length hys
              rw [chunks_length] at hlen
              simp only [VF]
              refine ⟨_, m, c, rfl, hlen.symm, q6, ?_, .inr ⟨blk, sh + off, esz, bo, cs, rfl, Mz_live hM q2 (cellsOf_some hc) hg, ?_, by omega, VE_optMap ih hsz hys hch⟩⟩
              · cases bo <;> simp [LKok]
              · intro hb; rw [hb]; rfl
            · cases hxs
          · cases hxs
        · cases h
      · cases h
    · rename_i b off
      split at h
      · rename_i opn cells hc
        split at h
        · rename_i ys hys
          cases h
          simp only [VF] at hv
          obtain ⟨blk, sh, C, rfl, q2⟩ := hv
          obtain ⟨hM, cs, el, hg, hC, hsh, _, hve⟩ := hi.live b blk sh C opn cells q2 (cellsOf_some hc)
          have hlen := optMap_length hys
          have hcl : cs.toList.length = cs.size := Array.length_toList
          simp only [VF]
          refine ⟨blk, sh, bo, cs, cells.length, rfl, Mz_live hM q2 (cellsOf_some hc) hg, fun h => h, by omega, by simpa [D.flat] using hlen, ?_, ?_⟩
          · rw [List.length_take, List.length_drop, hcl]; omega
          · exact VE_prefix (by omega) (VE_optMap ih hsz hys hve)
        · cases h
      · cases h
    · cases h
    · cases h; simpa only [VF] using hv

theorem fz_VV {bo : Bool} (hi : Inv β M H w) {n : Nat} {d d' : D} {v : Value} (h : fz bo H n d = some d') (hv : VV M β d v) : VV (Mz bo β H w M) nob d' v :=
  ⟨by rw [(fz_shape n h).1]; exact hv.1, fz_VF hi n d d' _ h hv.2⟩

/-! ### Without borrowed parts -/
mutual
theorem VF_nobor {M M' : Mem} (hM : ∀ blk cs, M blk = some (false, cs) → M' blk = some (false, cs)) : ∀ (x : D) {β : Beta} {l : List Value}, nobor x = true → VF M x β l → VF M' x β l
  | .s v, _, _, _, h => by simpa only [VF] using h
  | .agg xs, _, _, hf, h => by
    simp only [nobor] at hf
    simp only [VF] at h ⊢
    exact ⟨h.1, VE_nobor hM xs hf h.2⟩
  | .tup xs, _, _, hf, h => by
    simp only [nobor] at hf
    simp only [VF] at h ⊢
    obtain ⟨vs, h1, h2⟩ := h
    exact ⟨vs, h1, VT_nobor hM xs hf h2⟩
  | .lit k xs, _, _, hf, h => by
    simp only [nobor, Bool.and_eq_true] at hf
    simp only [VF] at h ⊢
    obtain ⟨a, n, c, h1, h2, h3, h4, h5⟩ := h
    refine ⟨a, n, c, h1, h2, h3, h4, ?_⟩
    rcases h5 with h5 | ⟨blk, off, e, bo, cs, g1, g2, g3, g4, g5⟩
    · exact .inl h5
    · have hbo : bo = false := by
        cases bo with
        | false => rfl
        | true => rw [g3 rfl] at hf; simp at hf
      subst hbo
      exact .inr ⟨blk, off, e, false, cs, g1, hM _ _ g2, g3, g4, VE_nobor hM xs hf.2 g5⟩
  | .rp bo x o, _, _, hf, h => by
    simp only [nobor, Bool.and_eq_true, Bool.not_eq_true'] at hf
    simp only [VF] at h ⊢
    obtain ⟨blk, off, bo', cs, e, h1, h2, h3, h4, h5, h6⟩ := h
    have hbo : bo' = false := by
      cases bo' with
      | false => rfl
      | true => rw [h3 rfl] at hf; simp at hf
    subst hbo
    exact ⟨blk, off, false, cs, e, h1, hM _ _ h2, h3, h4, h5, VF_nobor hM x hf.2 h6⟩
  | .sl .., _, _, hf, _ => by simp [nobor] at hf
  | .ptr .., _, _, hf, _ => by simp [nobor] at hf
  | .fn f a c, _, _, hf, h => by
    simp only [nobor, Bool.and_eq_true] at hf
    simp only [VF] at h ⊢
    obtain ⟨vs, ws, h1, h2, h3⟩ := h
    exact ⟨vs, ws, h1, VT_nobor hM a hf.1 h2, VT_nobor hM c hf.2 h3⟩
  | .ifc t x, _, _, hf, h => by
    simp only [nobor] at hf
    simp only [VF] at h ⊢
    obtain ⟨v, h1, h2, h3⟩ := h
    exact ⟨v, h1, h2, VF_nobor hM x hf h3⟩
  | .mp _, _, _, hf, _ => by simp [nobor] at hf
  | .unk u p, _, _, _, h => by simpa only [VF] using h
theorem VE_nobor {M M' : Mem} (hM : ∀ blk cs, M blk = some (false, cs) → M' blk = some (false, cs)) : ∀ (xs : List D) {β : Beta} {e : Nat} {l : List Value}, nobors xs = true → VE M xs β e l → VE M' xs β e l
  | [], _, _, _, _, _ => VE_nil
  | x :: xs, _, _, _, hf, h => by
    simp only [nobors, Bool.and_eq_true] at hf
    simp only [VE] at h ⊢
    exact ⟨h.1, h.2.1, VF_nobor hM x hf.1 h.2.2.1, VE_nobor hM xs hf.2 h.2.2.2⟩
theorem VT_nobor {M M' : Mem} (hM : ∀ blk cs, M blk = some (false, cs) → M' blk = some (false, cs)) : ∀ (xs : List D) {β : Beta} {l : List Value}, nobors xs = true → VT M xs β l → VT M' xs β l
  | [], _, _, _, h => by simpa only [VT] using h
  | x :: xs, _, _, hf, h => by
    simp only [nobors, Bool.and_eq_true] at hf
    simp only [VT] at h ⊢
    obtain ⟨v, r, h1, h2, h3, h4⟩ := h
    exact ⟨v, r, h1, h2, VF_nobor hM x hf.1 h3, VT_nobor hM xs hf.2 h4⟩
end

/-! ### Less known -/
mutual
theorem toK_shape (k : LK) : ∀ (x : D), (toK k x).isAgg = x.isAgg ∧ (toK k x).flat.length = x.flat.length
  | .agg xs => ⟨rfl, by simp only [toK, D.flat]; exact toKs_length k xs⟩
  | .tup _ => ⟨rfl, rfl⟩
  | .lit _ _ => ⟨rfl, rfl⟩
  | .rp _ _ _ => ⟨rfl, rfl⟩
  | .fn _ _ _ => ⟨rfl, rfl⟩
  | .ifc _ _ => ⟨rfl, rfl⟩
  | .s _ => ⟨rfl, rfl⟩
  | .sl .. => ⟨rfl, rfl⟩
  | .ptr .. => ⟨rfl, rfl⟩
  | .mp _ => ⟨rfl, rfl⟩
  | .unk _ _ => ⟨rfl, rfl⟩
theorem toKs_length (k : LK) : ∀ (xs : List D), (toKs k xs).length = xs.length
  | [] => rfl
  | x :: xs => by simp only [toKs, List.length_cons, toKs_length k xs]
end

theorem LKok_any {k : LK} {a : Option Addr} {n c : Nat} (h : LKok k a n c) : a = none → c = 0 := by
  intro ha
  cases k <;> simp only [LKok] at h
  · exact absurd ha h.2
  · exact absurd ha h
  · exact h ha
  · exact h.2
  · exact h ha
  · exact h.2 ha

mutual
theorem VF_toK {M : Mem} {k : LK} (hk : k = .any ∨ k = .bor) : ∀ (x : D) {β : Beta} {l : List Value}, (k = .any → nobor x = true) → VF M x β l → VF M (toK k x) β l
  | .s v, _, _, _, h => by simpa only [toK] using h
  | .unk u p, _, _, _, h => by simpa only [toK] using h
  | .sl .., _, _, _, h => by simpa only [toK] using h
  | .ptr .., _, _, _, h => by simpa only [toK] using h
  | .mp _, _, _, _, h => by simpa only [toK] using h
  | .agg xs, _, _, hf, h => by
    simp only [nobor] at hf
    simp only [toK, VF] at h ⊢
    exact ⟨by rw [toKs_length]; exact h.1, VE_toK hk xs hf h.2⟩
  | .tup xs, _, _, hf, h => by
    simp only [nobor] at hf
    simp only [toK, VF] at h ⊢
    obtain ⟨vs, h1, h2⟩ := h
    exact ⟨vs, h1, VT_toK hk xs hf h2⟩
  | .lit k0 xs, _, _, hf, h => by
    simp only [nobor, Bool.and_eq_true] at hf
    simp only [toK, VF] at h ⊢
    obtain ⟨a, n, c, h1, h2, h3, h4, h5⟩ := h
    refine ⟨a, n, c, h1, by rw [toKs_length]; exact h2, h3, ?_, ?_⟩
    · rcases hk with rfl | rfl <;> exact LKok_any h4
    · rcases h5 with h5 | ⟨blk, off, e, bo, cs, g1, g2, g3, g4, g5⟩
      · subst h5; exact .inl rfl
      · refine .inr ⟨blk, off, e, bo, cs, g1, g2, ?_, g4, VE_toK hk xs (fun h => (hf h).2) g5⟩
        intro hb
        rcases hk with rfl | rfl
        · have := (hf rfl).1
          rw [g3 hb] at this
          cases this
        · rfl
  | .rp bo x o, _, _, hf, h => by
    simp only [nobor, Bool.and_eq_true] at hf
    simp only [toK, VF] at h ⊢
    obtain ⟨blk, off, bo', cs, e, h1, h2, h3, h4, h5, h6⟩ := h
    exact ⟨blk, off, bo', cs, e, h1, h2, h3, h4, by rw [(toK_shape k x).2]; exact h5, VF_toK hk x (fun h => (hf h).2) h6⟩
  | .fn f a c, _, _, hf, h => by
    simp only [nobor, Bool.and_eq_true] at hf
    simp only [toK, VF] at h ⊢
    obtain ⟨vs, ws, h1, h2, h3⟩ := h
    exact ⟨vs, ws, h1, VT_toK hk a (fun h => (hf h).1) h2, VT_toK hk c (fun h => (hf h).2) h3⟩
  | .ifc t x, _, _, hf, h => by
    simp only [nobor] at hf
    simp only [toK, VF] at h ⊢
    obtain ⟨v, h1, h2, h3⟩ := h
    exact ⟨v, h1, by rw [(toK_shape k x).1]; exact h2, VF_toK hk x hf h3⟩
theorem VE_toK {M : Mem} {k : LK} (hk : k = .any ∨ k = .bor) : ∀ (xs : List D) {β : Beta} {e : Nat} {l : List Value}, (k = .any → nobors xs = true) → VE M xs β e l → VE M (toKs k xs) β e l
  | [], _, _, _, _, _ => by simp only [toKs]; exact VE_nil
  | x :: xs, _, _, _, hf, h => by
    simp only [nobors, Bool.and_eq_true] at hf
    simp only [toKs, VE] at h ⊢
    exact ⟨h.1, by rw [(toK_shape k x).2]; exact h.2.1, VF_toK hk x (fun h => (hf h).1) h.2.2.1, VE_toK hk xs (fun h => (hf h).2) h.2.2.2⟩
theorem VT_toK {M : Mem} {k : LK} (hk : k = .any ∨ k = .bor) : ∀ (xs : List D) {β : Beta} {l : List Value}, (k = .any → nobors xs = true) → VT M xs β l → VT M (toKs k xs) β l
  | [], _, _, _, h => by simpa only [toKs, VT] using h
  | x :: xs, _, _, hf, h => by
    simp only [nobors, Bool.and_eq_true] at hf
    simp only [toKs, VT] at h ⊢
    obtain ⟨v, r, h1, h2, h3, h4⟩ := h
    exact ⟨v, r, h1, by rw [(toK_shape k x).1]; exact h2, VF_toK hk x (fun h => (hf h).1) h3, VT_toK hk xs (fun h => (hf h).2) h4⟩
end

theorem kOf_or (b : Bool) : kOf b = .any ∨ kOf b = .bor := by cases b <;> simp [kOf]
theorem VV_canon {M : Mem} {β : Beta} {d : D} {v : Value} (h : VV M β d v) : VV M β (canon d) v := by
  refine ⟨by rw [canon, (toK_shape _ d).1]; exact h.1, VF_toK (kOf_or _) d (fun hk => ?_) h.2⟩
  cases hb : nobor d with
  | true => rfl
  | false => rw [hb] at hk; cases hk
theorem VT_canons {M : Mem} {β : Beta} {ds : List D} {vs : List Value} (h : VT M ds β vs) : VT M (canons ds) β vs := by
  refine VT_toK (kOf_or _) ds (fun hk => ?_) h
  cases hb : nobors ds with
  | true => rfl
  | false => rw [hb] at hk; cases hk

end Go.Mini
