/- Writes that leave a load alone. -/
import Derived.Test.YtacoaelokdamnaaGreatSnd3
set_option linter.all false
set_option linter.unusedSimpArgs false
set_option linter.unusedVariables false
namespace Go.Mini

theorem ev_congr {x : Opd} {E F : Env} (h : ∀ t ∈ x.tmps, look t F = look t E) : x.ev F = x.ev E := by
  cases x with
  | t n => exact h n (by simp [Opd.tmps])
  | k d => rfl

theorem cellsOf_set_other {H : Heap} {b b' : Nat} {B : Blk} (h : b ≠ b') : cellsOf (H.set b' B) b = cellsOf H b := by
  unfold cellsOf
  rw [List.getElem?_set_ne (Ne.symm h)]

theorem cellsOf_snoc {H : Heap} {b : Nat} {B : Blk} (h : b ≠ H.length) : cellsOf (H ++ [B]) b = cellsOf H b := by
  unfold cellsOf
  by_cases hlt : b < H.length
  · rw [List.getElem?_append_left hlt]
  · rw [List.getElem?_eq_none (by simp; omega), List.getElem?_eq_none (by omega)]

theorem ldp_cells {H H' : Heap} {b o n : Nat} {ag : Bool} (h : cellsOf H' b = cellsOf H b) : ldp H' (.ptr b o) n ag = ldp H (.ptr b o) n ag := by
  unfold ldp
  simp only [h]

theorem patch_take_left (xs ys : List D) (o o' n : Nat) (h : o + n ≤ o') (hl : o' + ys.length ≤ xs.length) : ((patch xs o' ys).drop o).take n = (xs.drop o).take n := by
  unfold patch
  rw [List.drop_append_of_le_length (by rw [List.length_take]; omega), List.take_append_of_le_length (by rw [List.length_drop, List.length_take]; omega)]
  rw [List.drop_take, List.take_take]
  congr 1
  omega

theorem patch_take_right (xs ys : List D) (o o' n : Nat) (h : o' + ys.length ≤ o) (hl : o' + ys.length ≤ xs.length) : ((patch xs o' ys).drop o).take n = (xs.drop o).take n := by
  unfold patch
  have h1 : (xs.take o').length = o' := by rw [List.length_take]; omega
  congr 1
  rw [List.drop_append, List.drop_eq_nil_of_le (by omega), List.nil_append, h1, List.drop_append, List.drop_eq_nil_of_le (by omega), List.nil_append, List.drop_drop]
  congr 1
  omega

theorem ldp_setCells {H H' : Heap} {b b' o o' n : Nat} {ag : Bool} {ys : List D} (hs : setCells H b' o' ys = some H') (h : b ≠ b' ∨ o + n ≤ o' ∨ o' + ys.length ≤ o) : ldp H' (.ptr b o) n ag = ldp H (.ptr b o) n ag := by
  unfold setCells at hs
  split at hs
  · rename_i opn xs hc
    split at hs
    · rename_i hb
      cases hs
      simp only [Bool.and_eq_true] at hb
      have hb1 := Nat.le_of_ble_eq_true hb.1
      by_cases e : b = b'
      · subst e
        have hg := cellsOf_some hc
        have hlt : b < H.length := (List.getElem?_eq_some_iff.1 hg).1
        have hc' : cellsOf (H.set b (.cells true opn (patch xs o' ys))) b = some (opn, patch xs o' ys) := by
          unfold cellsOf
          simp [hlt]
        unfold ldp
        simp only [hc, hc']
        rcases h with h | h | h
        · exact absurd rfl h
        · rw [patch_take_left xs ys o o' n h hb1]
        · rw [patch_take_right xs ys o o' n h hb1]
      · exact ldp_cells (cellsOf_set_other e)
    · cases hs
  · cases hs

theorem beq_ne {a b : Nat} (h : (!Nat.beq a b) = true) : a ≠ b := by
  rintro rfl
  simp at h

/-- What a write leaves alone. -/
theorem ldp_keep {cx : Cx} {y : Ins} {E F : Env} {H H' : Heap} {d : D} {b o n : Nat} (he : iev cx y.op E H = .ok (d, H')) (hr : ∀ t ∈ y.op.tmps, look t F = look t E) (hd : ∀ t, y.dst = some t → look t F = some d) (hw : wrApart y F b o n = true) (ag : Bool) :
    ldp H' (.ptr b o) n ag = ldp H (.ptr b o) n ag := by
  obtain ⟨dst, g, op⟩ := y
  have newb : ∀ {B : Blk}, wrApart.newApart ⟨dst, g, op⟩ F b = true → ((∃ z, d = .ptr H.length z) ∨ (∃ n' e' a', d = .sl H.length 0 n' e' a' none) ∨ ∃ o' n' e' a' c', d = .sl H.length o' n' e' a' c') → ldp (H ++ [B]) (.ptr b o) n ag = ldp H (.ptr b o) n ag := by
    intro B h h2
    refine ldp_cells (cellsOf_snoc ?_)
    unfold wrApart.newApart at h
    simp only at h
    split at h
    · rename_i t
      rw [hd t rfl] at h
      rcases h2 with ⟨z, rfl⟩ | ⟨_, _, _, rfl⟩ | ⟨_, _, _, _, _, rfl⟩
      · exact beq_ne h
      · exact beq_ne h
      · exact beq_ne h
    · cases h
  cases op <;> simp only [wrApart] at hw
  case store p x k =>
    simp only [IOp.tmps] at hr
    simp only [iev] at he
    rw [ev_congr (fun t ht => hr t (List.mem_append_left _ ht))] at hw
    split at he
    · rename_i dp yv hp hx
      split at he
      · rename_i H2 hst
        cases he
        rw [hp] at hw
        unfold stp at hst
        split at hst
        · rename_i b' o'
          split at hst
          · rename_i hk
            have hk := Nat.eq_of_beq_eq_true hk
            simp only [Bool.or_eq_true] at hw
            refine ldp_setCells hst ?_
            rcases hw with (hw | hw) | hw
            · exact .inl (beq_ne hw)
            · exact .inr (.inl (Nat.le_of_ble_eq_true hw))
            · exact .inr (.inr (by have := Nat.le_of_ble_eq_true hw; omega))
          · cases hst
        · cases hst
      · cases he
    · cases he
  case box x =>
    simp only [iev] at he
    split at he
    · cases he
      exact newb hw (.inl ⟨0, rfl⟩)
    · cases he
  case msl asLit nn cc e bytes ag' zs =>
    simp only [iev] at he
    repeat' split at he
    all_goals first | (cases he; done) | (cases he; rfl) | (cases he; exact newb hw (.inr (.inl ⟨_, _, _, rfl⟩)))
  case bsl asLit e ag' zs len ps =>
    simp only [iev] at he
    repeat' split at he
    all_goals first | (cases he; done) | (cases he; rfl) | (cases he; exact newb hw (.inr (.inl ⟨_, _, _, rfl⟩)))
  case nwc f xs =>
    simp only [iev] at he
    split at he
    · split at he
      · cases he; rfl
      · split at he
        · rename_i dd B hB hn
          cases he
          refine newb hw ?_
          unfold isNew at hn
          split at hn
          · exact .inr (.inr ⟨_, _, _, _, _, by rw [Nat.eq_of_beq_eq_true hn]⟩)
          · exact .inl ⟨_, by rw [Nat.eq_of_beq_eq_true hn]⟩
          · cases hn
        · cases he
      · cases he
    · cases he
  case app asLit x yy e bytes ag' =>
    simp only [IOp.tmps] at hr
    rw [ev_congr (x := x) (fun t ht => hr t (List.mem_append_left _ ht))] at hw
    simp only [iev] at he
    split at he
    · rename_i xd yd hx hy
      rw [hx] at hw
      split at he
      · rename_i r hr'
        obtain ⟨rd, rH⟩ := r
        cases he
        unfold appD at hr'
        split at hr'
        · cases hr'
        · rename_i ys hys
          split at hr'
          · split at hr'
            · cases hr'; rfl
            · cases hr'
          · split at hr'
            · cases hr'
            · rename_i n0 hn0
              split at hr'
              · cases hr'
              · split at hr'
                · rename_i k xs
                  simp only at hw
                  split at hr'
                  · cases hr'
                  · split at hr'
                    · split at hr'
                      · cases hr'; rfl
                      · cases hr'
                    · cases hr'
                      exact newb hw (.inr (.inl ⟨_, _, _, rfl⟩))
                · rename_i bx off m esz ag2
                  simp only [Bool.and_eq_true] at hw
                  obtain ⟨hw1, hw2⟩ := hw
                  have hne := beq_ne hw1
                  split at hr'
                  · cases hr'
                  · split at hr'
                    · cases hr'
                    · split at hr'
                      · split at hr'
                        · rename_i H2 hsc
                          cases hr'
                          exact ldp_setCells hsc (.inl hne)
                        · cases hr'
                      · simp only at hr'
                        split at hr'
                        · cases hr'
                          exact newb hw2 (.inr (.inl ⟨_, _, _, rfl⟩))
                        · cases hr'
                          have hnew : b ≠ H.length := by
                            unfold wrApart.newApart at hw2
                            simp only at hw2
                            split at hw2
                            · rename_i t
                              rw [hd t rfl] at hw2
                              exact beq_ne hw2
                            · cases hw2
                          refine ldp_cells ?_
                          rw [cellsOf_snoc (by rw [List.length_set]; exact hnew), cellsOf_set_other hne]
                · cases hr'
      · cases he
    · cases he
  all_goals cases hw

end Go.Mini
