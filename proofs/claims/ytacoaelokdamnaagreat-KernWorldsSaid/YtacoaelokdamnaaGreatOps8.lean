/- The operations, part 8: append; floats' bits; structs compared. -/
import Derived.Test.YtacoaelokdamnaaGreatOps7
set_option linter.all false
set_option linter.unusedSimpArgs false
set_option linter.unusedVariables false
namespace Go.Mini

section
variable {P : Program} {cx : Cx} {β : Beta} {M : Mem} {H : Heap} {w : World} {a : Act} {E : Env} {o : Oper}

/-- What stood in a block is given up, and the block's memory is a new one's. -/
theorem extend_inv {b blk sh C sh' : Nat} {opn : Bool} {xs ys : List D} {cs cs' : Array Value} {e : TypeId} (h : Inv β M H w) (hb : H[b]? = some (.cells true opn xs)) (hβ : β b = some (blk, sh, C))
    (hg : w.heap[blk]? = some (.cells cs e (0, 0))) (hsz : cs'.size = C) (hs : sh' + ys.length ≤ C) (hv : VE M ys β 1 (cs'.toList.drop sh')) :
    Inv (β.put H.length (blk, sh', C)) M (H.set b (.cells false opn xs) ++ [.cells true true ys]) (w.setRow blk cs') ∧
    Step H β M w (H.set b (.cells false opn xs) ++ [.cells true true ys]) (β.put H.length (blk, sh', C)) M (w.setRow blk cs') := by
  obtain ⟨hM, _⟩ := h.live b blk sh C opn xs hβ hb
  have hn := beta_none h (Nat.le_refl H.length)
  have hle := Beta.le_put (β := β) (blk, sh', C) hn
  have hlt : b < H.length := (List.getElem?_eq_some_iff.1 hb).1
  have hblk := (h.dom b _ hβ).2
  have hother : ∀ k, k ≠ blk → (w.setRow blk cs').heap[k]? = w.heap[k]? := fun k hk => setRow_other w blk k _ hk
  have hlen : (H.set b (.cells false opn xs) ++ [Blk.cells true true ys]).length = H.length + 1 := by simp
  have hold : ∀ (x : Nat) (o3 : Bool) (l3 : List D), x < H.length → (List.set H b (Blk.cells false opn xs) ++ [Blk.cells true true ys])[x]? = some (Blk.cells true o3 l3) → x ≠ b ∧ H[x]? = some (Blk.cells true o3 l3) := by
    intro x o3 l3 hx h1
    rw [List.getElem?_append_left (by simpa using hx)] at h1
    by_cases ex : x = b
    · subst ex
      rw [List.getElem?_set_self hlt] at h1
      cases h1
    · exact ⟨ex, by rwa [List.getElem?_set_ne (Ne.symm ex)] at h1⟩
  have hnew : ∀ (o3 : Bool) (l3 : List D), (List.set H b (Blk.cells false opn xs) ++ [Blk.cells true true ys])[H.length]? = some (Blk.cells true o3 l3) → l3 = ys ∧ o3 = true := by
    intro o3 l3 h1
    rw [List.getElem?_append_right (by simp)] at h1
    simp at h1
    exact ⟨h1.2.symm, h1.1.symm ▸ rfl⟩
  refine ⟨⟨?_, ?_, ?_, ?_⟩, ⟨by rw [hlen]; omega, hle, M.le_refl, ?_, fun _ _ h => .inl h, rfl, rfl, rfl, by simp [setRow_size], ?_⟩⟩
  · intro k bo cs1 hm
    obtain ⟨e', fr, h1⟩ := h.mem k bo cs1 hm
    refine ⟨e', fr, ?_⟩
    rw [hother k (fun ek => by rw [ek, hM] at hm; cases hm)]
    exact h1
  · intro x c hx
    rw [hlen, setRow_size]
    by_cases ex : x = H.length
    · subst ex
      rw [Beta.put_same] at hx
      cases hx
      exact ⟨by omega, hblk⟩
    · rw [Beta.put_other β _ ex] at hx
      have := h.dom x c hx
      exact ⟨by omega, this.2⟩
  · intro x blk' s1 C' opn' xs' h1 h2
    by_cases ex : x = H.length
    · subst ex
      rw [Beta.put_same] at h1
      cases h1
      obtain ⟨rfl, rfl⟩ := hnew _ _ h2
      exact ⟨hM, cs', e, setRow_heap w blk cs _ e _ hg, hsz, hs, fun hf => (by cases hf), VE_mono M.le_refl _ hle hv⟩
    · rw [Beta.put_other β _ ex] at h1
      obtain ⟨q1, q2⟩ := hold x _ _ (by have := (h.dom x _ h1).1; omega) h2
      obtain ⟨h3, cs1, e1, h4, h5, h6, h7, h8⟩ := h.live x blk' s1 C' opn' xs' h1 q2
      refine ⟨h3, cs1, e1, ?_, h5, h6, h7, VE_mono M.le_refl _ hle h8⟩
      rw [hother blk' (fun ek => q1 (h.inj x b _ _ _ _ _ _ h1 hβ q2 hb ek))]
      exact h4
  · intro x x' c c' o1 l1 o2 l2 hx hx' hl1 hl2 hcc
    by_cases ex : x = H.length <;> by_cases ex' : x' = H.length
    · rw [ex, ex']
    · subst ex
      rw [Beta.put_same] at hx
      cases hx
      rw [Beta.put_other β _ ex'] at hx'
      obtain ⟨q1, q2⟩ := hold x' _ _ (by have := (h.dom x' _ hx').1; omega) hl2
      exact absurd (h.inj x' b _ _ _ _ _ _ hx' hβ q2 hb hcc.symm) q1
    · subst ex'
      rw [Beta.put_same] at hx'
      cases hx'
      rw [Beta.put_other β _ ex] at hx
      obtain ⟨q1, q2⟩ := hold x _ _ (by have := (h.dom x _ hx).1; omega) hl1
      exact absurd (h.inj x b _ _ _ _ _ _ hx hβ q2 hb hcc) q1
    · rw [Beta.put_other β _ ex] at hx
      rw [Beta.put_other β _ ex'] at hx'
      obtain ⟨q1, q2⟩ := hold x _ _ (by have := (h.dom x _ hx).1; omega) hl1
      obtain ⟨q3, q4⟩ := hold x' _ _ (by have := (h.dom x' _ hx').1; omega) hl2
      exact h.inj x x' c c' _ _ _ _ hx hx' q2 q4 hcc
  · intro x c hx
    by_cases ex : x = H.length
    · subst ex
      rw [Beta.put_same] at hx
      cases hx
      exact .inr ⟨Nat.le_refl _, .inl ⟨b, _, hβ, rfl⟩⟩
    · rw [Beta.put_other β _ ex] at hx
      exact .inl hx
  · intro k hk hn
    exact hother k (fun ek => hn b _ hβ (by simpa using ek.symm))

/-- Where elements lie. -/
def At (M : Mem) (w : World) (β : Beta) (e : Nat) (ad : Option Addr) (ys : List D) : Prop :=
  ys = [] ∨ ∃ blk off cs el fr, ad = some ⟨blk, off, none⟩ ∧ w.heap[blk]? = some (.cells cs el fr) ∧ off + ys.length * e ≤ cs.size ∧ VE M ys β e (cs.toList.drop off)

theorem At.cells {ad : Option Addr} {ys : List D} {e : Nat} (h : At M w β e ad ys) : ∃ l, l.length = ys.length * e ∧ VE M ys β e l ∧ (∀ b, ad = some b → ∀ j v, l[j]? = some v → w.cell? (b.add j) = some v) ∧ (ys ≠ [] → ∃ b, ad = some b) := by
  rcases h with rfl | ⟨blk, off, cs, el, fr, rfl, hg, hs, hv⟩
  · exact ⟨[], by simp, VE_nil, by simp, fun h => absurd rfl h⟩
  · have hcl : cs.toList.length = cs.size := Array.length_toList
    refine ⟨(cs.toList.drop off).take (ys.length * e), by rw [List.length_take, List.length_drop, hcl]; omega, VE_prefix (Nat.le_refl _) hv, ?_, fun _ => ⟨_, rfl⟩⟩
    intro b hb j v hj
    cases hb
    rw [addr_add, cell_at hg]
    rw [List.getElem?_take] at hj
    split at hj
    · rw [List.getElem?_drop] at hj
      simpa using hj
    · cases hj

/-- append that needs new memory, told of cells. -/
theorem run_growR {t el ty : TypeId} {e bytes : Nat} {ag : Bool} {z : Value} {i : TypeInfo} (hu : P.underlying t = some (.slice el)) (ht : tsz P el = some (e, bytes, ag)) (hi : P.info? el = some i) (hz : i.zero = some z) (hzs : z.cells.size = e)
    {ad : Option Addr} {b2 : Addr} {lx ly : List Value} {n m c c2 : Nat} (hlx : lx.length = n * e) (hly : ly.length = m * e) (hcx : ∀ b, ad = some b → ∀ j v, lx[j]? = some v → w.cell? (b.add j) = some v)
    (hcy : ∀ j v, ly[j]? = some v → w.cell? (b2.add j) = some v) (hm : 0 < m) (hc : c < n + m) (hnil : ad = none → c = 0 ∧ n = 0)
    (hb : (n + m) * bytes ≤ 140737488355328) (h1 : 1 ≤ bytes) :
    ∃ (cap : Nat) (cs rest : Array Value), (Builtin.append_ #[t, t] ty #[.slice ad n c, .slice (some b2) m c2]).run P w = .ok (.slice (some ⟨w.heap.size, 0, none⟩) (n + m) cap) (w.drew.alloc (.cells cs el)) ∧
      n + m ≤ cap ∧ cs.size = cap * e ∧ cs.toList = lx ++ (ly ++ rest.toList) := by
  obtain ⟨i', d, q1, q2, q3, q4, _⟩ := tsz_spec ht
  rw [hi] at q1
  cases q1
  have hlen : n + m ≤ 140737488355328 := Nat.le_trans (Nat.le_mul_of_pos_right _ h1) hb
  cases ad with
  | none =>
    obtain ⟨rfl, rfl⟩ := hnil rfl
    have hlx0 : lx = [] := List.eq_nil_of_length_eq_zero (by simpa using hlx)
    subst hlx0
    simp only [Nat.zero_add] at *
    have hr := run_append_nil (P := P) w t ty el i z hu hi hz b2 m c2 ly (by rw [q3]; exact hly) hcy hm (by omega) (by rw [q4]; omega)
    refine ⟨_, _, Builtin.zeroCells z.cells (grownCap w m 0 el - m), hr, grownCap_ge w _ _ _, ?_, by simp⟩
    have hge := grownCap_ge w m 0 el
    simp only [Array.size_append, List.size_toArray, size_zeroCells, hzs, hly, ← Nat.add_mul]
    congr 1
    omega
  | some b =>
    have hr := run_append_grow (P := P) w t ty el i z hu hi hz b n c lx (by rw [q3]; exact hlx) (hcx b rfl) b2 m c2 ly (by rw [q3]; exact hly) hcy (by omega) (by omega) (by rw [q4]; exact growslice_fits hc hb)
    refine ⟨_, _, Builtin.zeroCells z.cells (grownCap w (n + m) c el - (n + m)), hr, grownCap_ge w _ _ _, ?_, by simp⟩
    have hge := grownCap_ge w (n + m) c el
    simp only [Array.size_append, List.size_toArray, size_zeroCells, hzs, hlx, hly, ← Nat.add_mul]
    congr 1
    omega

/-- append that needs new memory. -/
theorem run_grow {t el ty : TypeId} {e bytes : Nat} {ag : Bool} {z : Value} {i : TypeInfo} (hu : P.underlying t = some (.slice el)) (ht : tsz P el = some (e, bytes, ag)) (hi : P.info? el = some i) (hz : i.zero = some z) (hzs : z.cells.size = e)
    {ad ad2 : Option Addr} {xs ys : List D} {c c2 : Nat} (hx : At M w β e ad xs) (hy : At M w β e ad2 ys) (hys : ys ≠ []) (hc : c < xs.length + ys.length) (hnil : ad = none → c = 0)
    (hb : (xs.length + ys.length) * bytes ≤ 140737488355328) (h1 : 1 ≤ bytes) :
    ∃ cap cs, (Builtin.append_ #[t, t] ty #[.slice ad xs.length c, .slice ad2 ys.length c2]).run P w = .ok (.slice (some ⟨w.heap.size, 0, none⟩) (xs.length + ys.length) cap) (w.drew.alloc (.cells cs el)) ∧
      xs.length + ys.length ≤ cap ∧ cs.size = cap * e ∧ VE M (xs ++ ys) β e cs.toList := by
  obtain ⟨lx, hlx, hvx, hcx, hsx⟩ := hx.cells
  obtain ⟨ly, hly, hvy, hcy, hsy⟩ := hy.cells
  obtain ⟨b2, rfl⟩ := hsy hys
  obtain ⟨cap, cs, rest, g1, g2, g3, g4⟩ := run_growR (P := P) (ty := ty) (c2 := c2) hu ht hi hz hzs hlx hly hcx (hcy b2 rfl) (List.length_pos_iff.2 hys) hc (fun h => ⟨hnil h, by
    by_cases hx0 : xs = []
    · rw [hx0]; rfl
    · obtain ⟨b, hb⟩ := hsx hx0; rw [h] at hb; cases hb⟩) hb h1
  refine ⟨cap, cs, g1, g2, g3, ?_⟩
  rw [g4]
  refine VE_append (VE_of_prefix (n := lx.length) (by omega) (by simpa using hvx)) ?_
  rw [← hlx, List.drop_left' rfl]
  exact VE_of_prefix (n := ly.length) (by omega) (by simpa using hvy)

/-- append into room that is there. -/
theorem run_room {t el ty : TypeId} {e bytes : Nat} {ag : Bool} (hu : P.underlying t = some (.slice el)) (ht : tsz P el = some (e, bytes, ag)) {ad2 : Option Addr} {blk off n : Nat} {ys : List D} {c c2 : Nat} {l : List Value} {w' : World}
    (hl : (Builtin.firstCells e ys.length (.slice ad2 ys.length c2)).run P w = .ok l.toArray w) (hc : n + ys.length ≤ c) (hst : (storeCells ⟨blk, off + n * e, none⟩ l).run P w = .ok () w') (hnint : ∀ k, P.underlying t ≠ some (.int k)) :
    (Builtin.append_ #[t, t] ty #[.slice (some ⟨blk, off, none⟩) n c, .slice ad2 ys.length c2]).run P w = .ok (.slice (some ⟨blk, off, none⟩) (n + ys.length) c) w' := by
  simp [Builtin.append_, run_underlying hu, run_sizeOf' ht, Builtin.lenOf, hc, hl, addr_add, hst]

theorem run_append_none {t el ty : TypeId} {e bytes : Nat} {ag : Bool} (hu : P.underlying t = some (.slice el)) (ht : tsz P el = some (e, bytes, ag)) {ad ad2 : Option Addr} {n c c2 : Nat} (hc : n ≤ c) :
    (Builtin.append_ #[t, t] ty #[.slice ad n c, .slice ad2 0 c2]).run P w = .ok (.slice ad n c) w := by
  cases ad2 with
  | none => cases ad <;> simp [Builtin.append_, run_underlying hu, run_sizeOf' ht, Builtin.lenOf, hc, Builtin.firstCells, storeCells]
  | some b => cases ad <;> simp [Builtin.append_, run_underlying hu, run_sizeOf' ht, Builtin.lenOf, hc, Builtin.firstCells, storeCells, loadCells, loadCellsFrom]

theorem exec_append {t ty : TypeId} {x' y' : Operand} {dst : Option Tmp} {pos : String} {after : Array Edge} {guard : Option (Nat × Bool)} {v : Value} {w' : World}
    (h : (Builtin.append_ #[t, t] ty #[a.eval x', a.eval y']).run P w = .ok v w') :
    (execOp a.eval (⟨dst, .call ⟨.builtin .append, #[x', y'], #[t, t]⟩, ty, pos, after, guard⟩ : Oper)).run P w = .ok (.value v) w' := by
  simp [execOp, resolve, invoke, builtin, h]

theorem app_ok {asLit : Bool} {x y : Opd} {e bytes : Nat} {ag : Bool} (hm : matOp P o.op (.app asLit x y e bytes ag) = true) (hi : Inv β M H w) (he : HE M β a E (IOp.tmps (.app asLit x y e bytes ag))) :
    OpOk P o a w β M H (iev cx (.app asLit x y e bytes ag) E H) := by
  obtain ⟨dst, op', ty, pos, after, guard⟩ := o
  simp only [iev]
  simp only [IOp.tmps] at he
  simp only [matOp] at hm
  split at hm
  · rename_i c
    obtain ⟨callee, args, argTypes⟩ := c
    simp only [Bool.and_eq_true] at hm
    obtain ⟨⟨h1, h2⟩, h3⟩ := hm
    obtain ⟨x', y', rfl, h4, h5⟩ := matOpds_two h2
    split at h1
    · split at h3
      · rename_i t u htu
        have htu : argTypes = #[t, u] := by
          obtain ⟨l⟩ := argTypes
          simpa using htu
        subst htu
        simp only [Bool.and_eq_true] at h3
        obtain ⟨⟨⟨h6, h60⟩, h7⟩, h8⟩ := h3
        have h60 := Nat.le_of_ble_eq_true h60
        obtain rfl := Nat.eq_of_beq_eq_true h6
        obtain ⟨el, hu, ht⟩ := sliceOk_spec h7
        have hel : elemT P t = some el := by simp [elemT, hu]
        rw [hel] at h8
        simp only [] at h8
        split at h8
        · rename_i i hii
          have hz : ∃ z, i.zero = some z ∧ z.cells.size = e := by
            cases hzz : i.zero with
            | none => rw [hzz] at h8; simp at h8
            | some z => rw [hzz] at h8; exact ⟨z, rfl, by simpa using h8⟩
          obtain ⟨z, hz, hzs⟩ := hz
          split
          · rename_i d1 d2 hx hy
            have v1 := opd_sound h4 (he_l he) hx
            have v2 := opd_sound h5 (he_r he) hy
            split
            · rename_i r hr
              unfold appD at hr
              split at hr
              · cases hr
              · rename_i ys hys
                obtain ⟨ad2, c2, e2, hle2, hy2⟩ := elems_cells hi hys v2
                split at hr
                · split at hr
                  · rename_i n hn
                    cases hr
                    obtain ⟨ad1, c1, e1, hle1⟩ := slen_spec hn v1
                    refine ok_same (w' := w) (v := a.eval x') hi (exec_append ?_) (Grew.refl w) v1
                    rw [e2, e1]
                    exact run_append_none hu ht hle1
                  · cases hr
                · rename_i y0 yr
                  have hne : (y0 :: yr) ≠ [] := by simp
                  generalize y0 :: yr = ys at *
                  split at hr
                  · cases hr
                  · rename_i n hn
                    split at hr
                    · cases hr
                    · rename_i hb
                      simp only [Bool.and_eq_true] at hb
                      have hb1 := Nat.le_of_ble_eq_true hb.1
                      have hb2 := Nat.le_of_ble_eq_true hb.2
                      split at hr
                      · rename_i k xs
                        simp only [slen, Option.some.injEq] at hn
                        subst hn
                        split at hr
                        · cases hr
                        · rename_i hall
                          simp only [Bool.and_eq_true] at hall
                          obtain ⟨hfull, hall⟩ := hall
                          obtain ⟨ad1, c1, e1, hle1, hex, hx1⟩ := VV_lit v1
                          have hex : c1 = xs.length := by
                            cases k <;> simp_all [LK.full, LKok]
                          subst hex
                          have hAt : At M w nob e ad1 xs := by
                            rcases hx1 with hx1 | ⟨blk, off, e', bo, cs, q1, q2, q3, q4, q5⟩
                            · exact .inl hx1
                            · by_cases hxn : xs = []
                              · exact .inl hxn
                              · obtain ⟨x0, xr, rfl⟩ := List.exists_cons_of_ne_nil hxn
                                obtain rfl := VE_esize q5 ⟨x0, by simp, (allSize_spec hall x0 (by simp)).1⟩
                                obtain ⟨el', fr, hg⟩ := hi.mem blk bo cs q2
                                exact .inr ⟨blk, off, cs, el', fr, q1, hg, q4, q5⟩
                          have hnil : ad1 = none → xs.length = 0 := by
                            intro hn
                            rcases hx1 with hx1 | ⟨blk, off, e', bo, cs, q1, _⟩
                            · rw [hx1]; rfl
                            · rw [hn] at q1; cases q1
                          have hypos : 0 < ys.length := List.length_pos_iff.2 hne
                          have hlen : (xs ++ ys).length = xs.length + ys.length := List.length_append
                          have hi' := hi.grew (Grew.drew w)
                          have hs' := Step.grew H β M (Grew.drew w)
                          split at hr
                          · split at hr
                            · rename_i hfz
                              cases hr
                              have hy2' : At M w nob e ad2 ys := by
                                rcases hy2 with hy2 | ⟨blk, off, cs, el', fr, q1, q2, q3, q4⟩
                                · exact .inl hy2
                                · exact .inr ⟨blk, off, cs, el', fr, q1, q2, q3, VE_fz ys hfz q4⟩
                              obtain ⟨cap, cs, g1, g2, g3, g4⟩ := run_grow (P := P) (ty := ty) (c2 := c2) hu ht hii hz hzs hAt hy2' hne (by omega) hnil hb1 hb2
                              have hrun := exec_append (dst := dst) (pos := pos) (after := after) (guard := guard) (x' := x') (y' := y') (a := a) (t := t) (by rw [e1, e2]; exact g1)
                              have hcap : (xs.length + ys.length) * e ≤ cap * e := Nat.mul_le_mul_right _ g2
                              obtain ⟨k1, k2⟩ := mem_block (cs := cs) (e := el) hi'
                              refine ok_value hrun (hs'.trans k2) k1 ⟨rfl, ?_⟩
                              simp only [VF, Value.cells]
                              exact ⟨_, _, _, rfl, hlen.symm, g2, (by simp [LKok]), .inr ⟨w.heap.size, 0, e, false, cs, rfl, Mem.put_same _ _ _, (by intro hk; cases hk), by omega, VE_mono k2.ml _ (fun _ _ h => h) g4⟩⟩
                            · cases hr
                          · cases hr
                            have hAt' : At M w β e ad1 xs := by
                              rcases hAt with hAt | ⟨blk, off, cs, el', fr, q1, q2, q3, q4⟩
                              · exact .inl hAt
                              · exact .inr ⟨blk, off, cs, el', fr, q1, q2, q3, VE_mono M.le_refl _ (nob_le β) q4⟩
                            obtain ⟨cap, cs, g1, g2, g3, g4⟩ := run_grow (P := P) (ty := ty) (c2 := c2) hu ht hii hz hzs hAt' hy2 hne (by omega) hnil hb1 hb2
                            have hrun := exec_append (dst := dst) (pos := pos) (after := after) (guard := guard) (x' := x') (y' := y') (a := a) (t := t) (by rw [e1, e2]; exact g1)
                            have hcap : (xs.length + ys.length) * e ≤ cap * e := Nat.mul_le_mul_right _ g2
                            have hfl := VE_flatMap g4
                            obtain ⟨k1, k2⟩ := new_block (opn := true) (xs := (xs ++ ys).flatMap D.flat) (cs := cs) (e := el) hi' (by rw [hfl.1, hlen, g3]; exact hcap) (fun hf => by cases hf) hfl.2
                            exact ok_value hrun (hs'.trans k2) k1 (VV_sl_mk (Beta.put_same _ _ _) (by rw [g3]; simp) g2 (by omega))
                      · rename_i b' off m esz ag'
                        simp only [slen, Option.some.injEq] at hn
                        subst hn
                        split at hr
                        · cases hr
                        · rename_i opn xs hcl
                          split at hr
                          · cases hr
                          · rename_i hb3
                            simp only [Bool.and_eq_true, beq_iff_eq] at hb3
                            obtain ⟨⟨⟨hb3, rfl⟩, hb4⟩, hcell⟩ := hb3
                            obtain rfl := Nat.eq_of_beq_eq_true hb3
                            have hb4 := Nat.le_of_ble_eq_true hb4
                            obtain ⟨blk, sh, C, c, e1, g2, g3, g4, g5, g6, g7⟩ := VV_sl v1
                            have g4 := g4 rfl
                            have hbb := cellsOf_some hcl
                            obtain ⟨hM, cs, el', hg, hC, hsh, hclo, hve⟩ := hi.live b' blk sh C opn xs g2 hbb
                            obtain ⟨l, hl1, hl2, hl3⟩ := run_firstCells (P := P) (c := c2) (k := ys.length) (Nat.le_refl _) hy2
                            rw [List.take_of_length_le (Nat.le_refl _)] at hl3
                            obtain ⟨q1, q2⟩ := VE_flatMap hl3
                            have hmul : (m + ys.length) * e = m * e + ys.length * e := Nat.add_mul _ _ _
                            split at hr
                            · rename_i hb5
                              have hb5 := Nat.le_of_ble_eq_true hb5
                              split at hr
                              · rename_i H' hs
                                cases hr
                                obtain ⟨w', k1, k2, k3⟩ := run_setCells (P := P) hi g2 hs (by rw [q1, hl2]) q2
                                have hcc : m + ys.length ≤ c := by
                                  refine Nat.le_of_mul_le_mul_right ?_ g7
                                  omega
                                have hrun := exec_append (dst := dst) (pos := pos) (after := after) (guard := guard) (x' := x') (y' := y') (a := a) (t := t) (ty := ty) (w := w) (by
                                  rw [e1, e2]; exact run_room (P := P) hu ht hl1 hcc (by rw [Nat.add_assoc]; exact k1) (by intro k; rw [hu]; simp))
                                exact ok_value hrun k2 k3 (VV_sl_mk g2 g4 hcc g7)
                              · cases hr
                            · rename_i hb5
                              have hb5 : ¬ off + (m + ys.length) * e ≤ xs.length := fun h => absurd (Nat.ble_eq_true_of_le h) (by simp [hb5])
                              have hdrop := VE_drop off hve (by omega)
                              rw [Nat.mul_one, List.drop_drop] at hdrop
                              have hvold := VE_take (m * e) hdrop
                              have holen : ((xs.drop off).take (m * e)).length = m * e := by rw [List.length_take, List.length_drop]; omega
                              have hcsl : cs.toList.length = cs.size := Array.length_toList
                              have hlxl : ((cs.toList.drop (sh + off)).take (m * e)).length = m * e := by rw [List.length_take, List.length_drop, hcsl]; omega
                              have hvall : ∀ (rest : List Value), VE M ((xs.drop off).take (m * e) ++ ys.flatMap D.flat) β 1 ((cs.toList.drop (sh + off)).take (m * e) ++ (l ++ rest)) := by
                                intro rest
                                refine VE_append (VE_of_prefix (n := m * e) (by rw [holen]; omega) ?_) ?_
                                · rw [List.take_left' hlxl]
                                  exact VE_prefix (by rw [holen]; omega) hvold
                                · rw [holen, Nat.mul_one, List.drop_left' hlxl]
                                  refine VE_of_prefix (n := l.length) (by rw [q1, hl2]; omega) ?_
                                  rw [List.take_left' rfl]
                                  exact q2
                              have hnl : ((xs.drop off).take (m * e) ++ ys.flatMap D.flat).length = (m + ys.length) * e := by rw [List.length_append, holen, q1, hmul]
                              have hi' := hi.grew (Grew.drew w)
                              have hs' := Step.grew H β M (Grew.drew w)
                              have hypos : 0 < ys.length := List.length_pos_iff.2 hne
                              have hgrow : c < m + ys.length → ∃ cap cs2 rest, (Builtin.append_ #[t, t] ty #[.slice (some ⟨blk, sh + off, none⟩) m c, .slice ad2 ys.length c2]).run P w = .ok (.slice (some ⟨w.heap.size, 0, none⟩) (m + ys.length) cap) (w.drew.alloc (.cells cs2 el)) ∧
                                  m + ys.length ≤ cap ∧ cs2.size = cap * e ∧ cs2.toList = (cs.toList.drop (sh + off)).take (m * e) ++ (l ++ rest) := by
                                intro hclt
                                obtain ⟨ly, r1, r2, r3, r4⟩ := At.cells (M := M) (w := w) (β := β) (e := e) (ad := ad2) hy2
                                obtain ⟨bb, rfl⟩ := r4 hne
                                have hly : ly = l := by
                                  rcases hy2 with hy2 | ⟨blk2, off2, cs2, el2, fr2, s1, s2, s3, s4⟩
                                  · exact absurd hy2 hne
                                  · cases s1
                                    have hl1' := hl1
                                    simp only [Builtin.firstCells, run_loadCells' (P := P) s2 (o := off2) (n := ys.length * e) (by omega)] at hl1'
                                    have hle : l = (cs2.toList.drop off2).take (ys.length * e) := by
                                      injection hl1' with h1 _
                                      have := congrArg Array.toList h1
                                      simpa using this.symm
                                    apply List.ext_getElem?
                                    intro j
                                    by_cases hj : j < ys.length * e
                                    · obtain ⟨v, hv⟩ : ∃ v, ly[j]? = some v := ⟨ly[j]'(by omega), List.getElem?_eq_getElem (by omega)⟩
                                      have hc1 := r3 _ rfl j v hv
                                      rw [addr_add, cell_at s2] at hc1
                                      rw [hv, hle, List.getElem?_take, if_pos hj, List.getElem?_drop]
                                      simpa using hc1.symm
                                    · rw [List.getElem?_eq_none (by omega), List.getElem?_eq_none (by omega)]
                                subst hly
                                obtain ⟨cap, cs2, rest, g1, g2', g3', g4'⟩ := run_growR (P := P) (w := w) (ty := ty) (c2 := c2) (c := c) (ad := some ⟨blk, sh + off, none⟩) hu ht hii hz hzs hlxl hl2 (by
                                  intro b hb j v hj
                                  cases hb
                                  rw [addr_add, cell_at hg]
                                  rw [List.getElem?_take] at hj
                                  split at hj
                                  · rw [List.getElem?_drop] at hj
                                    simpa using hj
                                  · cases hj) (r3 _ rfl) hypos hclt (by intro h; cases h) hb1 hb2
                                exact ⟨cap, cs2, rest.toList, g1, g2', g3', g4'⟩
                              split at hr
                              · have hclo := hclo rfl
                                cases hr
                                have hclt : c < m + ys.length := by
                                  rcases Nat.lt_or_ge c (m + ys.length) with h | h
                                  · exact h
                                  · have := Nat.mul_le_mul_right e h
                                    omega
                                obtain ⟨cap, cs2, rest, k1, k2, k3, k4⟩ := hgrow hclt
                                have hcap := Nat.mul_le_mul_right e k2
                                obtain ⟨k5, k6⟩ := new_block (opn := true) (xs := (xs.drop off).take (m * e) ++ ys.flatMap D.flat) (cs := cs2) (e := el) hi' (by rw [hnl, k3]; exact hcap) (fun hf => by cases hf) (by rw [k4]; exact hvall rest)
                                have hrun := exec_append (dst := dst) (pos := pos) (after := after) (guard := guard) (x' := x') (y' := y') (a := a) (t := t) (by rw [e1, e2]; exact k1)
                                exact ok_value hrun (hs'.trans k6) k5 (VV_sl_mk (Beta.put_same _ _ _) (by rw [k3]; simp) k2 (by omega))
                              · cases hr
                                by_cases hclt : c < m + ys.length
                                · obtain ⟨cap, cs2, rest, k1, k2, k3, k4⟩ := hgrow hclt
                                  have hcap := Nat.mul_le_mul_right e k2
                                  have hir := retire_inv (b := b') (opn := true) (xs := xs) hi'
                                  obtain ⟨k5, k6⟩ := new_block (opn := true) (xs := (xs.drop off).take (m * e) ++ ys.flatMap D.flat) (cs := cs2) (e := el) hir (by rw [hnl, k3]; exact hcap) (fun hf => by cases hf) (by rw [k4]; exact hvall rest)
                                  have hlenH : (H.set b' (Blk.cells false true xs)).length = H.length := by simp
                                  rw [hlenH] at k5 k6
                                  have hrun := exec_append (dst := dst) (pos := pos) (after := after) (guard := guard) (x' := x') (y' := y') (a := a) (t := t) (by rw [e1, e2]; exact k1)
                                  have hst : Step H β M w.drew (H.set b' (Blk.cells false true xs)) β M w.drew := ⟨by simp, β.le_refl, M.le_refl, fun _ _ h => .inl h, fun _ _ h => .inl h, rfl, rfl, rfl, Nat.le_refl _, fun _ _ _ => rfl⟩
                                  exact ok_value hrun ((hs'.trans hst).trans k6) k5 (VV_sl_mk (Beta.put_same _ _ _) (by rw [k3]; simp) k2 (by omega))
                                · have hcc : m + ys.length ≤ c := by omega
                                  have hccm := Nat.mul_le_mul_right e hcc
                                  have hstore := run_storeCells_at P blk (sh + off + m * e) el' l 0 cs w hg (by omega) (oneCells_of (by rw [q1, hl2]) q2 hcell)
                                  simp only [Nat.add_zero] at hstore
                                  have hszA : (cs.toList.take (sh + off + m * e) ++ l ++ cs.toList.drop (sh + off + m * e + l.length)).toArray.size = C := by
                                    simp only [List.size_toArray, List.length_append, List.length_take, List.length_drop, hcsl]
                                    omega
                                  have hdropA : (cs.toList.take (sh + off + m * e) ++ l ++ cs.toList.drop (sh + off + m * e + l.length)).drop (sh + off) = (cs.toList.drop (sh + off)).take (m * e) ++ (l ++ cs.toList.drop (sh + off + m * e + l.length)) := by
                                    rw [List.append_assoc, List.drop_append_of_le_length (by rw [List.length_take, hcsl]; omega), List.drop_take]
                                    congr 2
                                    omega
                                  obtain ⟨k1, k2⟩ := extend_inv (sh' := sh + off) (ys := (xs.drop off).take (m * e) ++ ys.flatMap D.flat) (cs' := (cs.toList.take (sh + off + m * e) ++ l ++ cs.toList.drop (sh + off + m * e + l.length)).toArray) hi hbb g2 hg hszA (by rw [hnl]; omega) (by
                                    rw [List.toList_toArray, hdropA]
                                    exact hvall _)
                                  have hrun := exec_append (dst := dst) (pos := pos) (after := after) (guard := guard) (x' := x') (y' := y') (a := a) (t := t) (ty := ty) (w := w) (by
                                    rw [e1, e2]; exact run_room (P := P) hu ht hl1 hcc hstore (by intro k; rw [hu]; simp))
                                  refine ok_value hrun k2 k1 ?_
                                  have := VV_sl_mk (M := M) (ag := ag) (off := 0) (n := m + ys.length) (Beta.put_same β H.length (blk, sh + off, C)) (by omega) hcc g7
                                  simpa using this
                      · cases hr
            · trivial
          · trivial
        · cases h8
      · cases h3
    · cases h1
  · cases hm

end
end Go.Mini
