/- The operations, part 7: slices cut; append. -/
import Derived.Test.YtacoaelokdamnaaGreatOps6
import Derived.Laws.Slices
set_option linter.all false
set_option linter.unusedSimpArgs false
set_option linter.unusedVariables false
namespace Go.Mini

section
variable {P : Program} {cx : Cx} {β : Beta} {M : Mem} {H : Heap} {w : World} {a : Act} {E : Env} {o : Oper}

/-- A bound that is given, or none. -/
def BR : Option Value → Option Nat → Prop
  | none, none => True
  | some v, some n => ∃ k i, v = .int k i ∧ 0 ≤ i ∧ i.toNat = n
  | _, _ => False

theorem opt_sound {x : Option Operand} {y : Option Opd} {n : Option Nat} (hm : matOpt x y = true) (he : HE M β a E (optTmps y)) (h : optOpd E y = some n) : BR (x.map a.eval) n := by
  unfold matOpt at hm
  split at hm
  · simp only [optOpd, Option.some.injEq] at h
    subst h
    trivial
  · rename_i x y
    simp only [optOpd] at h
    split at h
    · cases h
    · rename_i d hd
      split at h
      · cases h
      · rename_i n hn
        cases h
        exact idx_spec hn (opd_sound hm he hd)
  · cases hm


theorem run_bounds {lo hi : Option Value} {l h : Option Nat} (isSlice : Bool) (len cap : Nat) (h1 : BR lo l) (h2 : BR hi h) (h3 : l.getD 0 ≤ h.getD len) (h4 : h.getD len ≤ cap) (h5 : len ≤ cap) (w : World) :
    (Instr.sliceBounds isSlice len cap lo hi none).run P w = .ok (l.getD 0, h.getD len, cap) w := by
  unfold Instr.sliceBounds
  cases hi with
  | none =>
    cases h with
    | some _ => simp [BR] at h2
    | none =>
      cases lo with
      | none =>
        cases l with
        | some _ => simp [BR] at h1
        | none => simp
      | some v =>
        cases l with
        | none => simp [BR] at h1
        | some l =>
          obtain ⟨k, i, rfl, q1, rfl⟩ := h1
          simp only [Option.getD_some, Option.getD_none] at h3 h4 ⊢
          simp [run_sliceBound (P := P) w k i len .sliceB q1 (by omega)]
  | some u =>
    cases h with
    | none => simp [BR] at h2
    | some h =>
      obtain ⟨k', j, rfl, q3, rfl⟩ := h2
      simp only [Option.getD_some] at h3 h4
      have hb := fun code => run_sliceBound (P := P) w k' j cap code q3 (by omega)
      cases lo with
      | none =>
        cases l with
        | some _ => simp [BR] at h1
        | none => simp [hb]
      | some v =>
        cases l with
        | none => simp [BR] at h1
        | some l =>
          obtain ⟨k, i, rfl, q1, rfl⟩ := h1
          simp only [Option.getD_some] at h3 ⊢
          simp [hb, run_sliceBound (P := P) w k i j.toNat .sliceB q1 (by omega)]

/-- The bounds of 's[l:h:m]' where nothing is left. -/
theorem run_bounds3 {lo hi mx : Option Value} {l h : Option Nat} {m : Nat} (len cap : Nat) (h1 : BR lo l) (h2 : BR hi h) (h3 : BR mx (some m)) (hl : l.getD 0 = m) (hh : h = some m) (hm : m ≤ cap) (w : World) :
    (Instr.sliceBounds true len cap lo hi mx).run P w = .ok (m, m, m) w := by
  unfold Instr.sliceBounds
  subst hh
  cases mx with
  | none => simp [BR] at h3
  | some u =>
    obtain ⟨k1, i1, rfl, q1, rfl⟩ := h3
    cases hi with
    | none => simp [BR] at h2
    | some u =>
      obtain ⟨k2, i2, rfl, q2, q3⟩ := h2
      have hi2 : i2 = i1 := by omega
      subst hi2
      have b1 := fun code => run_sliceBound (P := P) w k1 i2 cap code q1 (by omega)
      have b2 := fun code => run_sliceBound (P := P) w k2 i2 i2.toNat code q1 (by omega)
      cases lo with
      | none =>
        cases l with
        | some _ => simp [BR] at h1
        | none =>
          simp only [Option.getD_none] at hl
          simp [b1, b2]
          omega
      | some v =>
        cases l with
        | none => simp [BR] at h1
        | some l =>
          obtain ⟨k, i, rfl, q4, rfl⟩ := h1
          simp only [Option.getD_some] at hl
          have hii : i = i2 := by omega
          subst hii
          have b3 := fun code => run_sliceBound (P := P) w k i i.toNat code q1 (by omega)
          simp [b1, b2, b3]

theorem VV_lit_nil {k : LK} {ad : Option Addr} {c : Nat} (h : LKok k ad 0 c) : VV M β (.lit k []) (.slice ad 0 c) := by
  refine ⟨rfl, ?_⟩
  simp only [VF, Value.cells]
  exact ⟨ad, 0, c, rfl, rfl, Nat.zero_le _, h, .inl trivial⟩

theorem VV_sl_mk {b off n esz blk sh C c : Nat} {ag : Bool} (h1 : β b = some (blk, sh, C)) (h2 : sh + off + c * esz = C) (h3 : n ≤ c) (h4 : 0 < esz) : VV M β (.sl b off n esz ag none) (.slice (some ⟨blk, sh + off, none⟩) n c) := by
  refine ⟨rfl, ?_⟩
  simp only [VF, Value.cells]
  exact ⟨blk, sh, C, c, rfl, h1, by omega, fun _ => h2, fun _ h => (by cases h), h3, h4⟩

theorem VV_sl_cap {b off n esz blk sh C c : Nat} {ag : Bool} (h1 : β b = some (blk, sh, C)) (h2 : sh + off + c * esz ≤ C) (h3 : n ≤ c) (h4 : 0 < esz) : VV M β (.sl b off n esz ag (some c)) (.slice (some ⟨blk, sh + off, none⟩) n c) := by
  refine ⟨rfl, ?_⟩
  simp only [VF, Value.cells]
  exact ⟨blk, sh, C, c, rfl, h1, h2, fun h => (by cases h), fun k h => (by cases h; rfl), h3, h4⟩

/-- The machine's 's[l:h]' of a slice. -/
theorem run_slice_plain {t el : TypeId} {n b : Nat} {ag : Bool} (hu : P.underlying t = some (.slice el)) (ht : tsz P el = some (n, b, ag)) {ad : Option Addr} {len cap : Nat} {lo hi mx : Option Value} {l h m : Nat}
    (hb : (Instr.sliceBounds true len cap lo hi mx).run P w = .ok (l, h, m) w) : (Instr.sliceAt t (.slice ad len cap) lo hi mx).run P w = .ok (.slice (if m = l then ad else ad.map (·.add (l * n))) (h - l) (m - l)) w := by
  simp [Instr.sliceAt, run_underlying hu, Instr.slice, hb, run_sizeOf' ht]

theorem add_off (blk o n : Nat) : Option.map (fun x : Addr => x.add n) (some ⟨blk, o, none⟩) = some ⟨blk, o + n, none⟩ := by simp [addr_add]

theorem slc_sound {t el : TypeId} {e b : Nat} {ag : Bool} (hu : P.underlying t = some (.slice el)) (ht : tsz P el = some (e, b, ag)) (hi : Inv β M H w) {x d : D} {v : Value} {lo hi' mx : Option Value} {l h m : Option Nat}
    (hv : VV M β x v) (h1 : BR lo l) (h2 : BR hi' h) (h3 : BR mx m) (hmh : m.isSome = true → h.isSome = true) (hd : slcD H x l h m e ag = some d) : ∃ u, (Instr.sliceAt t v lo hi' mx).run P w = .ok u w ∧ VV M β d u := by
  unfold slcD at hd
  split at hd
  · rename_i k xs
    obtain ⟨ad, c, rfl, h4, h5, h6⟩ := VV_lit hv
    simp only [] at hd
    split at hd
    · cases hd
    · rename_i hb
      simp only [Bool.and_eq_true] at hb
      have hb1 := Nat.le_of_ble_eq_true hb.1
      have hb2 := Nat.le_of_ble_eq_true hb.2
      split at hd
      · rename_i mm
        split at hd
        · rename_i hb3
          simp only [Bool.and_eq_true] at hb3
          have hb3 := And.intro (Nat.eq_of_beq_eq_true hb3.1) (Nat.eq_of_beq_eq_true hb3.2)
          cases hd
          obtain ⟨hh, rfl⟩ := Option.isSome_iff_exists.1 (hmh rfl)
          simp only [Option.getD_some] at hb1 hb2 hb3
          have := run_bounds3 (P := P) xs.length c h1 h2 h3 hb3.1.symm (by rw [hb3.2]) (by omega) w
          refine ⟨_, run_slice_plain hu ht this, ?_⟩
          simp only [if_true, Nat.sub_self]
          refine VV_lit_nil ?_
          cases k <;> simp_all [LKok]
        · cases hd
      · cases mx with
        | some _ => simp [BR] at h3
        | none =>
          have hr := run_slice_plain (ad := ad) hu ht (run_bounds (P := P) true xs.length c h1 h2 hb1 (by omega) h4 w)
          split at hd
          · cases hd
          · rename_i hall
            cases hd
            refine ⟨_, hr, ?_⟩
            refine ⟨rfl, ?_⟩
            simp only [VF, Value.cells]
            have hlen : ((xs.drop (l.getD 0)).take (h.getD xs.length - l.getD 0)).length = h.getD xs.length - l.getD 0 := by rw [List.length_take, List.length_drop]; omega
            refine ⟨_, _, _, rfl, hlen.symm, by omega, ?_, ?_⟩
            · have hnn : ∀ {n : Nat}, ad ≠ none → (if c = n then ad else Option.map (fun x : Addr => x.add (n * e)) ad) ≠ none := by
                intro n hne
                split
                · exact hne
                · cases ad with
                  | none => exact absurd rfl hne
                  | some _ => simp
              have hno : ∀ {n m : Nat}, (ad = none → c = 0) → (if c = n then ad else Option.map (fun x : Addr => x.add (n * e)) ad) = none → c - m = 0 := by
                intro n m h0 hn
                have : ad = none := by
                  split at hn
                  · exact hn
                  · simpa using hn
                have := h0 this
                omega
              cases k with
              | exact =>
                obtain ⟨h5, h5'⟩ := h5
                simp only
                split
                · rename_i hh
                  have := Nat.eq_of_beq_eq_true hh
                  exact ⟨by omega, hnn h5'⟩
                · exact hnn h5'
              | spare => exact hnn h5
              | bor => exact hno h5
              | any => exact hno h5
              | ful =>
                obtain ⟨h5, h5'⟩ := h5
                simp only
                split
                · rename_i hh
                  have := Nat.eq_of_beq_eq_true hh
                  exact ⟨by omega, hno h5'⟩
                · exact hno h5'
              | nil =>
                obtain ⟨rfl, rfl⟩ := h5
                refine ⟨by simp, by omega⟩
            · by_cases hn : h.getD xs.length - l.getD 0 = 0
              · exact .inl (by rw [hn, List.take_zero])
              · rcases h6 with h6 | ⟨blk, off, e', bo, cs, rfl, h7, h8, h9, h10⟩
                · subst h6; simp only [List.length_nil] at hb2 hn; omega
                · have hex : ∃ y ∈ (xs.drop (l.getD 0)).take (h.getD xs.length - l.getD 0), y.flat.length = e := by
                    obtain ⟨y, r, hy⟩ := List.exists_cons_of_ne_nil (l := (xs.drop (l.getD 0)).take (h.getD xs.length - l.getD 0)) (fun h => by rw [h] at hlen; simp at hlen; omega)
                    exact ⟨y, by rw [hy]; simp, (allSize_spec hall y (by rw [hy]; simp)).1⟩
                  have hve := VE_take (h.getD xs.length - l.getD 0) (VE_drop (l.getD 0) h10 (by omega))
                  obtain rfl := VE_esize hve hex
                  have hne : ¬ c = l.getD 0 := by omega
                  have hmul : h.getD xs.length * e' ≤ xs.length * e' := Nat.mul_le_mul_right _ hb2
                  have hsub : (h.getD xs.length - l.getD 0) * e' = h.getD xs.length * e' - l.getD 0 * e' := Nat.sub_mul _ _ _
                  have hle : l.getD 0 * e' ≤ h.getD xs.length * e' := Nat.mul_le_mul_right _ hb1
                  refine .inr ⟨blk, off + l.getD 0 * e', e', bo, cs, ?_, h7, ?_, ?_, ?_⟩
                  · rw [if_neg hne, add_off]
                  · intro hb; rw [h8 hb]
                  · omega
                  · rwa [List.drop_drop] at hve
  · rename_i b' off n esz ag' cp
    simp only [] at hd
    split at hd
    · rename_i mm
      split at hd
      · rename_i hb3
        simp only [Bool.and_eq_true] at hb3
        have hb4 := Nat.le_of_ble_eq_true hb3.2
        have hb3 := And.intro (Nat.eq_of_beq_eq_true hb3.1.1) (Nat.eq_of_beq_eq_true hb3.1.2)
        cases hd
        obtain ⟨hh, rfl⟩ := Option.isSome_iff_exists.1 (hmh rfl)
        simp only [Option.getD_some] at hb3
        obtain ⟨blk, sh, C, c, rfl, g2, g3, g4, g5, g6, g7⟩ := VV_sl hv
        have := run_bounds3 (P := P) n c h1 h2 h3 hb3.1.symm (by rw [hb3.2]) (by omega) w
        refine ⟨_, run_slice_plain hu ht this, ?_⟩
        simp only [if_true, Nat.sub_self]
        exact VV_lit_nil ⟨rfl, by simp⟩
      · cases hd
    · cases mx with
      | some _ => simp [BR] at h3
      | none =>
        split at hd
        · cases hd
        · split at hd
          · cases hd
          · rename_i opn xs hc
            split at hd
            · cases hd
            · rename_i hb
              simp only [Bool.and_eq_true, Bool.or_eq_true, beq_iff_eq] at hb
              obtain ⟨⟨⟨hb1, rfl⟩, hb3⟩, hb4⟩ := hb
              obtain rfl := Nat.eq_of_beq_eq_true hb1
              have hb3 := Nat.le_of_ble_eq_true hb3
              obtain ⟨blk, sh, C, c, rfl, g2, g3, g4, g5, g6, g7⟩ := VV_sl hv
              have g4 := g4 rfl
              obtain ⟨hM, cs, el', hg, hC, hsh, hcl, hve⟩ := hi.live b' blk sh C opn xs g2 (cellsOf_some hc)
              have hhc : h.getD n ≤ c := by
                rcases hb4 with hb4 | hb4
                · have := Nat.le_of_ble_eq_true hb4; omega
                · have hx := Nat.le_of_ble_eq_true hb4
                  refine Nat.le_of_mul_le_mul_right ?_ g7
                  omega
              have hr := run_slice_plain (ad := some ⟨blk, sh + off, none⟩) hu ht (run_bounds (P := P) true n c h1 h2 hb3 hhc g6 w)
              refine ⟨_, hr, ?_⟩
              split at hd
              · rename_i hl0
                have hl0 := Nat.eq_of_beq_eq_true hl0
                cases hd
                rw [hl0]
                simp only [Nat.zero_mul, Nat.sub_zero]
                have hadd : (if c = 0 then some (⟨blk, sh + off, none⟩ : Addr) else Option.map (fun x : Addr => x.add 0) (some ⟨blk, sh + off, none⟩)) = some ⟨blk, sh + off, none⟩ := by
                  split
                  · rfl
                  · rw [add_off]; rfl
                rw [hadd]
                exact VV_sl_mk g2 g4 hhc g7
              · split at hd
                · rename_i hle
                  have hle := Nat.le_of_ble_eq_true hle
                  cases hd
                  have hsub : (c - l.getD 0) * e = c * e - l.getD 0 * e := Nat.sub_mul _ _ _
                  have hlc : l.getD 0 * e ≤ c * e := Nat.mul_le_mul_right _ (by omega)
                  have hne : ¬ c = l.getD 0 := by
                    intro hce
                    rw [hce] at g4
                    omega
                  rw [if_neg hne, add_off, Nat.add_assoc]
                  exact VV_sl_mk g2 (by omega) (by omega) g7
                · rename_i hle
                  split at hd
                  · rename_i hlh
                    have hlh := Nat.eq_of_beq_eq_true hlh
                    cases hd
                    rw [show h.getD n - l.getD 0 = 0 by omega]
                    refine VV_lit_nil ?_
                    have hnn : (if c = l.getD 0 then some (⟨blk, sh + off, none⟩ : Addr) else Option.map (fun x : Addr => x.add (l.getD 0 * e)) (some ⟨blk, sh + off, none⟩)) ≠ none := by
                      split <;> simp
                    cases opn with
                    | true => exact hnn
                    | false =>
                      refine ⟨?_, hnn⟩
                      have hcl := hcl rfl
                      have hlt : ¬ (off + l.getD 0 * e + 1 ≤ xs.length) := by
                        intro hx
                        exact absurd (Nat.ble_eq_true_of_le hx) (by simp [hle])
                      have hlc : l.getD 0 ≤ c := by omega
                      have hlc' : l.getD 0 * e ≤ c * e := Nat.mul_le_mul_right _ hlc
                      have hz : (c - l.getD 0) * e = 0 := by rw [Nat.sub_mul]; omega
                      rcases Nat.mul_eq_zero.1 hz with h | h
                      · exact h
                      · omega
                  · cases hd
  · cases hd

theorem slc_ok {x : Opd} {lo hi' mx : Option Opd} {e : Nat} {ag : Bool} (hm : matOp P o.op (.slc x lo hi' mx e ag) = true) (hi : Inv β M H w) (he : HE M β a E (IOp.tmps (.slc x lo hi' mx e ag))) :
    OpOk P o a w β M H (iev cx (.slc x lo hi' mx e ag) E H) := by
  obtain ⟨dst, op', ty, pos, after, guard⟩ := o
  simp only [iev]
  simp only [IOp.tmps] at he
  simp only [matOp] at hm
  split at hm
  · rename_i t y l' h' m'
    simp only [Bool.and_eq_true] at hm
    obtain ⟨⟨⟨⟨h1, h2⟩, h3⟩, h4⟩, h5⟩ := hm
    split
    · rename_i d l h m hx hl hh hmm
      have hv := opd_sound h1 (he_l (he_l (he_l he))) hx
      have b1 := opt_sound h2 (he_r (he_l (he_l he))) hl
      have b2 := opt_sound h3 (he_r (he_l he)) hh
      have b3 := opt_sound h4 (he_r he) hmm
      refine ofV_ok fun d' hd' => ?_
      split at h5
      · rename_i el hu
        simp only [Bool.and_eq_true, Bool.or_eq_true] at h5
        obtain ⟨h6, h7⟩ := h5
        split at h6
        · rename_i n b a' ht
          simp only [Bool.and_eq_true, beq_iff_eq] at h6
          obtain ⟨h6, rfl⟩ := h6
          obtain rfl := Nat.eq_of_beq_eq_true h6
          obtain ⟨u, q1, q2⟩ := slc_sound (P := P) hu ht hi hv b1 b2 b3 (fun hs => by
            rcases h7 with h7 | h7
            · cases m' with
              | none => cases m with
                | none => cases hs
                | some _ => simp [BR] at b3
              | some _ => simp at h7
            · cases h' with
              | none => simp at h7
              | some _ => cases h with
                | none => simp [BR] at b2
                | some _ => rfl) hd'
          exact ok_same (w' := w) hi (by simp [execOp, q1]) (Grew.refl w) q2
        · cases h6
      · cases h5
    · trivial
  · cases hm

theorem sls_ok {x : Opd} {lo hi' : Option Opd} (hm : matOp P o.op (.sls x lo hi') = true) (hi : Inv β M H w) (he : HE M β a E (IOp.tmps (.sls x lo hi'))) : OpOk P o a w β M H (iev cx (.sls x lo hi') E H) := by
  obtain ⟨dst, op', ty, pos, after, guard⟩ := o
  simp only [iev]
  simp only [IOp.tmps] at he
  simp only [matOp] at hm
  split at hm
  · rename_i t y l' h' m'
    simp only [Bool.and_eq_true] at hm
    obtain ⟨⟨⟨⟨h1, h2⟩, h3⟩, h4⟩, h5⟩ := hm
    split
    · rename_i d l h hx hl hh
      have hv := opd_sound h1 (he_l (he_l he)) hx
      have b1 := opt_sound h2 (he_r (he_l he)) hl
      have b2 := opt_sound h3 (he_r he) hh
      refine ofV_ok fun d' hd' => ?_
      split at h5
      · rename_i hu
        cases m' with
        | some _ => simp at h4
        | none =>
          unfold slsD at hd'
          split at hd'
          · rename_i s
            have e1 := (VV_s_inv hv).1
            split at hd'
            · rename_i hb
              simp only [Bool.and_eq_true] at hb
              have hb1 := Nat.le_of_ble_eq_true hb.1
              have hb2 := Nat.le_of_ble_eq_true hb.2
              cases hd'
              have hr := run_bounds (P := P) false s.size s.size b1 b2 hb1 hb2 (Nat.le_refl _) w
              exact ok_same (w' := w) (v := .string (s.extract (l.getD 0) (h.getD s.size))) hi (by simp [execOp, Instr.sliceAt, run_underlying hu, e1, Instr.slice, hr]) (Grew.refl w) VV_string
            · cases hd'
          · cases hd'
      · cases h5
    · trivial
  · cases hm

theorem sla_ok {x : Opd} {lo hi' : Option Opd} {N e : Nat} {ag : Bool} (hm : matOp P o.op (.sla x lo hi' N e ag) = true) (hi : Inv β M H w) (he : HE M β a E (IOp.tmps (.sla x lo hi' N e ag))) :
    OpOk P o a w β M H (iev cx (.sla x lo hi' N e ag) E H) := by
  obtain ⟨dst, op', ty, pos, after, guard⟩ := o
  simp only [iev]
  simp only [IOp.tmps] at he
  simp only [matOp] at hm
  split at hm
  · rename_i t y l' h' m'
    simp only [Bool.and_eq_true] at hm
    obtain ⟨⟨⟨⟨h1, h2⟩, h3⟩, h4⟩, h5⟩ := hm
    split
    · rename_i d l h hx hl hh
      have hv := opd_sound h1 (he_l (he_l he)) hx
      have b1 := opt_sound h2 (he_r (he_l he)) hl
      have b2 := opt_sound h3 (he_r he) hh
      refine ofV_ok fun d' hd' => ?_
      cases m' with
      | some _ => simp at h4
      | none =>
        split at h5
        · rename_i N' el hu
          simp only [Bool.and_eq_true] at h5
          obtain ⟨h5, h6⟩ := h5
          obtain rfl := Nat.eq_of_beq_eq_true h5
          split at h6
          · rename_i n b a' ht
            simp only [Bool.and_eq_true, beq_iff_eq] at h6
            obtain ⟨h6, rfl⟩ := h6
            obtain rfl := Nat.eq_of_beq_eq_true h6
            unfold slaD at hd'
            simp only [] at hd'
            split at hd'
            · cases hd'
            · rename_i hb
              simp only [Bool.and_eq_true, Bool.or_eq_true] at hb
              obtain ⟨⟨⟨⟨q1, q2⟩, q3⟩, q4⟩, q5⟩ := hb
              have q1 := Nat.le_of_ble_eq_true q1
              have q2 := Nat.le_of_ble_eq_true q2
              have q3 := Nat.le_of_ble_eq_true q3
              have q5 := Nat.le_of_ble_eq_true q5
              have hr := run_bounds (P := P) false N N b1 b2 q1 q2 (Nat.le_refl _) w
              have hne : ¬ N = l.getD 0 := by omega
              have hmulN : l.getD 0 * n + (N - l.getD 0) * n = N * n := by rw [← Nat.add_mul]; congr 1; omega
              split at hd'
              · rename_i b' oo
                split at hd'
                · rename_i opn xs hc
                  split at hd'
                  · rename_i hle
                    have hle := Nat.le_of_ble_eq_true hle
                    cases hd'
                    obtain ⟨blk, sh, C, g1, g2⟩ := VV_ptr hv
                    obtain ⟨hM, cs, el', hg, hC, hsh, hcl, hve⟩ := hi.live b' blk sh C opn xs g2 (cellsOf_some hc)
                    refine ok_same (w' := w) (v := .slice (some ⟨blk, sh + (oo + l.getD 0 * n), none⟩) (h.getD N - l.getD 0) (N - l.getD 0)) hi ?_ (Grew.refl w) (VV_sl_cap g2 (by omega) (by omega) (by omega))
                    simp [execOp, Instr.sliceAt, run_underlying hu, g1, Instr.sureAddr, hr, run_sizeOf' ht, hne, addr_add, Nat.add_assoc]
                  · cases hd'
                · cases hd'
              · rename_i bo y' oo
                split at hd'
                · rename_i hle
                  simp only [Bool.and_eq_true, Bool.or_eq_true, List.all_eq_true, Bool.not_eq_true'] at hle
                  obtain ⟨hle, hag⟩ := hle
                  have hle := Nat.le_of_ble_eq_true hle
                  cases hd'
                  obtain ⟨blk, off, bo', cs, g1, g2, g3, g4, g5⟩ := VV_rp hv
                  refine ok_same (w' := w) (v := .slice (some ⟨blk, off + (oo + l.getD 0 * n), none⟩) (h.getD N - l.getD 0) (N - l.getD 0)) hi ?_ (Grew.refl w) ?_
                  · simp [execOp, Instr.sliceAt, run_underlying hu, g1, Instr.sureAddr, hr, run_sizeOf' ht, hne, addr_add, Nat.add_assoc]
                  · refine ⟨rfl, ?_⟩
                    simp only [VF, Value.cells]
                    have hmul : (h.getD N - l.getD 0) * n ≤ (N - l.getD 0) * n := Nat.mul_le_mul_right _ (by omega)
                    refine ⟨_, _, _, rfl, (chunks_length _ _ _ _).symm, by omega, ?_, .inr ⟨blk, off + (oo + l.getD 0 * n), n, bo', cs, rfl, g2, ?_, by omega, ?_⟩⟩
                    · cases bo <;> simp [LKok]
                    · intro hb; rw [g3 hb]; rfl
                    · have hf := VE_drop (oo + l.getD 0 * n) (VE_flat g5) (by omega)
                      rw [Nat.mul_one, List.drop_take, List.drop_drop] at hf
                      have hfl : y'.flat.length - (oo + l.getD 0 * n) = (y'.flat.drop (oo + l.getD 0 * n)).length := by rw [List.length_drop]
                      rw [hfl] at hf
                      refine VE_chunks a' (fun hfa => ?_) _ (by rw [List.length_drop]; omega) (fun hfa x hx => ?_) (VE_of_prefix (by omega) hf)
                      · rcases q4 with q4 | q4
                        · rw [hfa] at q4; cases q4
                        · exact Nat.eq_of_beq_eq_true q4
                      · rcases hag with hag | hag
                        · rw [hfa] at hag; cases hag
                        · exact hag x (List.mem_of_mem_drop hx)
                · cases hd'
              · cases hd'
          · cases h6
        · cases h5
    · trivial
  · cases hm

end
end Go.Mini
