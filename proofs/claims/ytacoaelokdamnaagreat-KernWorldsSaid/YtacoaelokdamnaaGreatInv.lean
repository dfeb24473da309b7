/- What holds of the machine's world while the interpreter runs beside it; the world's few turns. -/
import Derived.Test.YtacoaelokdamnaaGreatIr
import Derived.Laws.AppendOwn
import Derived.Laws.CopyRow
import Derived.Laws.Cells
import Derived.Laws.IdiomRangeMap
set_option linter.all false
set_option linter.unusedSimpArgs false
set_option linter.unusedVariables false
namespace Go.Mini

/-- The heap and the machine's memory, as far as it is placed. -/
structure Inv (β : Beta) (M : Mem) (H : Heap) (w : World) : Prop where
  mem : ∀ blk bo cs, M blk = some (bo, cs) → ∃ e fr, w.heap[blk]? = some (.cells cs e fr)
  dom : ∀ b c, β b = some c → b < H.length ∧ c.1 < w.heap.size
  live : ∀ b blk sh C opn xs, β b = some (blk, sh, C) → H[b]? = some (.cells true opn xs) → M blk = none ∧
    ∃ cs e, w.heap[blk]? = some (.cells cs e (0, 0)) ∧ cs.size = C ∧ sh + xs.length ≤ C ∧ (opn = false → sh + xs.length = C) ∧ VE M xs β 1 (cs.toList.drop sh)
  inj : ∀ b b' c c' opn xs opn' xs', β b = some c → β b' = some c' → H[b]? = some (.cells true opn xs) → H[b']? = some (.cells true opn' xs') → c.1 = c'.1 → b = b'

/-- What a step may do to the world and to what is known of it. -/
structure Step (H : Heap) (β : Beta) (M : Mem) (w : World) (H' : Heap) (β' : Beta) (M' : Mem) (w' : World) : Prop where
  hl : H.length ≤ H'.length
  bl : β.le β'
  ml : M.le M'
  bnew : ∀ b c, β' b = some c → β b = some c ∨ (H.length ≤ b ∧ ((∃ b0 c0, β b0 = some c0 ∧ c0.1 = c.1) ∨ w.heap.size ≤ c.1))
  mnew : ∀ blk c, M' blk = some c → M blk = some c ∨ (w.heap.size ≤ blk ∧ c.1 = false)
  os : w'.os = w.os
  tape : w'.tape = w.tape
  output : w'.output = w.output
  size : w.heap.size ≤ w'.heap.size
  frame : ∀ blk, blk < w.heap.size → (∀ b c, β b = some c → c.1 ≠ blk) → w'.heap[blk]? = w.heap[blk]?

theorem Step.refl (H : Heap) (β : Beta) (M : Mem) (w : World) : Step H β M w H β M w :=
  ⟨Nat.le_refl _, β.le_refl, M.le_refl, fun _ _ h => .inl h, fun _ _ h => .inl h, rfl, rfl, rfl, Nat.le_refl _, fun _ _ _ => rfl⟩

theorem Step.trans {H : Heap} {β : Beta} {M : Mem} {w : World} {H1 : Heap} {β1 : Beta} {M1 : Mem} {w1 : World} {H2 : Heap} {β2 : Beta} {M2 : Mem} {w2 : World}
    (h : Step H β M w H1 β1 M1 w1) (k : Step H1 β1 M1 w1 H2 β2 M2 w2) : Step H β M w H2 β2 M2 w2 where
  hl := Nat.le_trans h.hl k.hl
  bl := Beta.le_trans h.bl k.bl
  ml := Mem.le_trans h.ml k.ml
  bnew := fun b c hb => by
    rcases k.bnew b c hb with h1 | ⟨hl, h1 | h1⟩
    · exact h.bnew b c h1
    · obtain ⟨b0, c0, h2, h3⟩ := h1
      rcases h.bnew b0 c0 h2 with h4 | ⟨_, h4 | h4⟩
      · exact .inr ⟨Nat.le_trans h.hl hl, .inl ⟨b0, c0, h4, h3⟩⟩
      · obtain ⟨b1, c1, h5, h6⟩ := h4
        exact .inr ⟨Nat.le_trans h.hl hl, .inl ⟨b1, c1, h5, h6.trans h3⟩⟩
      · exact .inr ⟨Nat.le_trans h.hl hl, .inr (h3 ▸ h4)⟩
    · exact .inr ⟨Nat.le_trans h.hl hl, .inr (Nat.le_trans h.size h1)⟩
  mnew := fun blk c hb => by
    rcases k.mnew blk c hb with h1 | h1
    · exact h.mnew blk c h1
    · exact .inr ⟨Nat.le_trans h.size h1.1, h1.2⟩
  os := k.os.trans h.os
  tape := k.tape.trans h.tape
  output := k.output.trans h.output
  size := Nat.le_trans h.size k.size
  frame := fun blk hb hn => by
    rw [k.frame blk (Nat.lt_of_lt_of_le hb h.size) ?_, h.frame blk hb hn]
    intro b c hc
    rcases h.bnew b c hc with h1 | ⟨_, h1 | h1⟩
    · exact hn b c h1
    · obtain ⟨b0, c0, h2, h3⟩ := h1
      exact h3 ▸ hn b0 c0 h2
    · omega

variable {β : Beta} {M : Mem} {H : Heap} {w : World}

theorem cellsOf_some {b : Nat} {opn : Bool} {xs : List D} (h : cellsOf H b = some (opn, xs)) : H[b]? = some (.cells true opn xs) := by
  unfold cellsOf at h
  split at h
  · rename_i h1; cases h; exact h1
  · cases h

/-- The world has drawn, or has more blocks, or both: nothing of it that was there has turned. -/
structure Grew (w w' : World) : Prop where
  os : w'.os = w.os
  tape : w'.tape = w.tape
  output : w'.output = w.output
  size : w.heap.size ≤ w'.heap.size
  heap : ∀ blk, blk < w.heap.size → w'.heap[blk]? = w.heap[blk]?
theorem Grew.refl (w : World) : Grew w w := ⟨rfl, rfl, rfl, Nat.le_refl _, fun _ _ => rfl⟩
theorem Grew.trans {w w1 w2 : World} (h : Grew w w1) (k : Grew w1 w2) : Grew w w2 :=
  ⟨k.os.trans h.os, k.tape.trans h.tape, k.output.trans h.output, Nat.le_trans h.size k.size, fun b hb => (k.heap b (Nat.lt_of_lt_of_le hb h.size)).trans (h.heap b hb)⟩
theorem Grew.drew (w : World) : Grew w w.drew := ⟨rfl, rfl, rfl, Nat.le_refl _, fun _ _ => rfl⟩
theorem Grew.alloc (w : World) (o : Obj) : Grew w (w.alloc o) :=
  ⟨rfl, rfl, rfl, by simp, fun b hb => heap_alloc_old w o hb⟩

theorem lt_of_some {α : Type} {l : Array α} {i : Nat} {x : α} (h : l[i]? = some x) : i < l.size := (Array.getElem?_eq_some_iff.1 h).1

theorem Inv.grew {w' : World} (h : Inv β M H w) (g : Grew w w') : Inv β M H w' where
  mem := fun blk bo cs hm => by
    obtain ⟨e, fr, h1⟩ := h.mem blk bo cs hm
    exact ⟨e, fr, by rw [g.heap _ (lt_of_some h1)]; exact h1⟩
  dom := fun b c hc => ⟨(h.dom b c hc).1, Nat.lt_of_lt_of_le (h.dom b c hc).2 g.size⟩
  live := fun b blk sh C opn xs h1 h2 => by
    obtain ⟨h3, cs, e, h4, h5⟩ := h.live b blk sh C opn xs h1 h2
    exact ⟨h3, cs, e, by rw [g.heap _ (lt_of_some h4)]; exact h4, h5⟩
  inj := h.inj

theorem Step.grew {w' : World} (H : Heap) (β : Beta) (M : Mem) (g : Grew w w') : Step H β M w H β M w' :=
  ⟨Nat.le_refl _, β.le_refl, M.le_refl, fun _ _ h => .inl h, fun _ _ h => .inl h, g.os, g.tape, g.output, g.size, fun b hb _ => g.heap b hb⟩

/-! ### A new block -/
def Beta.put (β : Beta) (b : Nat) (c : Nat × Nat × Nat) : Beta := fun x => if x = b then some c else β x
theorem Beta.put_same (β : Beta) (b : Nat) (c : Nat × Nat × Nat) : β.put b c b = some c := by simp [Beta.put]
theorem Beta.put_other (β : Beta) {b x : Nat} (c : Nat × Nat × Nat) (h : x ≠ b) : β.put b c x = β x := by simp [Beta.put, h]
theorem Beta.le_put {b : Nat} (c : Nat × Nat × Nat) (h : β b = none) : β.le (β.put b c) := fun x d hx => by
  by_cases e : x = b
  · subst e; rw [h] at hx; cases hx
  · rw [Beta.put_other β c e]; exact hx

/-- A block of the abstract heap that isn't placed yet is placed in a new block of the machine's (which may be longer, if the block is open). -/
theorem place_inv {b : Nat} {opn : Bool} {xs : List D} {cs : Array Value} {e : TypeId} (h : Inv β M H w) (hb : H[b]? = some (.cells true opn xs)) (hn : β b = none)
    (hs : xs.length ≤ cs.size) (hc : opn = false → xs.length = cs.size) (hv : VE M xs β 1 cs.toList) :
    Inv (β.put b (w.heap.size, 0, cs.size)) M H (w.alloc (.cells cs e)) := by
  have g := Grew.alloc w (.cells cs e)
  have hlt : b < H.length := (List.getElem?_eq_some_iff.1 hb).1
  have hM : M w.heap.size = none := by
    cases hm : M w.heap.size with
    | none => rfl
    | some c =>
      obtain ⟨bo, cs'⟩ := c
      obtain ⟨e', fr, h1⟩ := h.mem _ _ _ hm
      exact absurd (lt_of_some h1) (Nat.lt_irrefl _)
  have hle := Beta.le_put (β := β) (w.heap.size, 0, cs.size) hn
  refine ⟨(h.grew g).mem, ?_, ?_, ?_⟩
  · intro x c hx
    by_cases ex : x = b
    · subst ex
      rw [Beta.put_same] at hx
      cases hx
      exact ⟨hlt, by simp⟩
    · rw [Beta.put_other β _ ex] at hx
      exact (h.grew g).dom x c hx
  · intro x blk sh C opn' xs' h1 h2
    by_cases ex : x = b
    · subst ex
      rw [Beta.put_same] at h1
      cases h1
      rw [hb] at h2
      cases h2
      exact ⟨hM, cs, e, heap_alloc_new w _, rfl, by omega, fun ho => by have := hc ho; omega, by simpa using VE_mono M.le_refl _ hle hv⟩
    · rw [Beta.put_other β _ ex] at h1
      obtain ⟨h3, cs', e', h4, h5, h6, h7, h8⟩ := (h.grew g).live x blk sh C opn' xs' h1 h2
      exact ⟨h3, cs', e', h4, h5, h6, h7, VE_mono M.le_refl _ hle h8⟩
  · intro x x' c c' o1 l1 o2 l2 hx hx' hl hl' hcc
    by_cases ex : x = b <;> by_cases ex' : x' = b
    · rw [ex, ex']
    · subst ex
      rw [Beta.put_same] at hx
      cases hx
      rw [Beta.put_other β _ ex'] at hx'
      have := (h.dom x' c' hx').2
      simp only at hcc
      omega
    · subst ex'
      rw [Beta.put_same] at hx'
      cases hx'
      rw [Beta.put_other β _ ex] at hx
      have := (h.dom x c hx).2
      simp only at hcc
      omega
    · rw [Beta.put_other β _ ex] at hx
      rw [Beta.put_other β _ ex'] at hx'
      exact h.inj x x' c c' o1 l1 o2 l2 hx hx' hl hl' hcc

/-- The abstract heap has one more block, not placed. -/
theorem Inv.snoc (h : Inv β M H w) (B : Blk) : Inv β M (H ++ [B]) w where
  mem := h.mem
  dom := fun b c hc => ⟨by have := (h.dom b c hc).1; simp; omega, (h.dom b c hc).2⟩
  live := fun b blk sh C opn xs h1 h2 => h.live b blk sh C opn xs h1 (by
    rwa [List.getElem?_append_left (h.dom b _ h1).1] at h2)
  inj := fun b b' c c' _ _ _ _ h1 h2 h3 h4 h5 => h.inj b b' c c' _ _ _ _ h1 h2 (by rwa [List.getElem?_append_left (h.dom b _ h1).1] at h3) (by rwa [List.getElem?_append_left (h.dom b' _ h2).1] at h4) h5

theorem beta_none (h : Inv β M H w) {b : Nat} (hb : H.length ≤ b) : β b = none := by
  cases hx : β b with
  | none => rfl
  | some c => have := (h.dom b c hx).1; omega

/-- ONE MORE BLOCK, PLACED. -/
theorem new_block {opn : Bool} {xs : List D} {cs : Array Value} {e : TypeId} (h : Inv β M H w)
    (hs : xs.length ≤ cs.size) (hc : opn = false → xs.length = cs.size) (hv : VE M xs β 1 cs.toList) :
    Inv (β.put H.length (w.heap.size, 0, cs.size)) M (H ++ [.cells true opn xs]) (w.alloc (.cells cs e)) ∧
    Step H β M w (H ++ [.cells true opn xs]) (β.put H.length (w.heap.size, 0, cs.size)) M (w.alloc (.cells cs e)) := by
  have hn := beta_none h (Nat.le_refl H.length)
  have g := Grew.alloc w (.cells cs e)
  refine ⟨place_inv (h.snoc _) (by simp) hn hs hc hv, ?_⟩
  refine ⟨by simp, Beta.le_put _ hn, M.le_refl, ?_, fun _ _ h => .inl h, rfl, rfl, rfl, g.size, fun b hb _ => g.heap b hb⟩
  intro b c hx
  by_cases ex : b = H.length
  · subst ex
    rw [Beta.put_same] at hx
    cases hx
    exact .inr ⟨Nat.le_refl _, .inr (Nat.le_refl _)⟩
  · rw [Beta.put_other β _ ex] at hx
    exact .inl hx

def Mem.put (M : Mem) (blk : Nat) (cs : Array Value) : Mem := fun b => if b = blk then some (false, cs) else M b
theorem Mem.put_same (M : Mem) (blk : Nat) (cs : Array Value) : M.put blk cs blk = some (false, cs) := by simp [Mem.put]
/-- A new block of the machine's that never changes. -/
theorem mem_block {cs : Array Value} {e : TypeId} (h : Inv β M H w) :
    Inv β (M.put w.heap.size cs) H (w.alloc (.cells cs e)) ∧ Step H β M w H β (M.put w.heap.size cs) (w.alloc (.cells cs e)) := by
  generalize hM' : M.put w.heap.size cs = M'
  have hdef : ∀ b, M' b = if b = w.heap.size then some (false, cs) else M b := fun b => by rw [← hM']; rfl
  have g := Grew.alloc w (.cells cs e)
  have hM : M w.heap.size = none := by
    cases hm : M w.heap.size with
    | none => rfl
    | some c =>
      obtain ⟨bo, cs'⟩ := c
      obtain ⟨e', fr, h1⟩ := h.mem _ _ _ hm
      exact absurd (lt_of_some h1) (Nat.lt_irrefl _)
  have hle : M.le M' := fun blk c hc => by
    by_cases eb : blk = w.heap.size
    · subst eb; rw [hM] at hc; cases hc
    · simp only [hdef, eb, if_false]; exact hc
  refine ⟨⟨?_, (h.grew g).dom, ?_, h.inj⟩, ⟨Nat.le_refl _, β.le_refl, hle, fun _ _ h => .inl h, ?_, rfl, rfl, rfl, g.size, fun b hb _ => g.heap b hb⟩⟩
  · intro blk bo cs' hm
    by_cases eb : blk = w.heap.size
    · subst eb
      simp only [hdef, if_true] at hm
      cases hm
      exact ⟨e, (0, 0), heap_alloc_new w _⟩
    · simp only [hdef, eb, if_false] at hm
      exact (h.grew g).mem blk bo cs' hm
  · intro b blk sh C opn xs h1 h2
    obtain ⟨h3, cs', e', h4, h5, h6, h7, h8⟩ := (h.grew g).live b blk sh C opn xs h1 h2
    have hb := (h.dom b _ h1).2
    simp only at hb
    refine ⟨?_, cs', e', h4, h5, h6, h7, VE_mono hle _ β.le_refl h8⟩
    have : blk ≠ w.heap.size := by omega
    simp only [hdef, this, if_false]
    exact h3
  · intro blk c hc
    by_cases eb : blk = w.heap.size
    · subst eb
      simp only [hdef, if_true, Option.some.injEq] at hc
      subst hc
      exact .inr ⟨Nat.le_refl _, rfl⟩
    · simp only [hdef, eb, if_false] at hc
      exact .inl hc

/-! ### Cells read and written -/
theorem patch_length (xs : List D) (o : Nat) (ys : List D) (h : o + ys.length ≤ xs.length) : (patch xs o ys).length = xs.length := by
  unfold patch
  simp only [List.length_append, List.length_take, List.length_drop]
  omega

theorem setRow_size (w : World) (g : Nat) (cs : Array Value) : (w.setRow g cs).heap.size = w.heap.size := by simp [World.setRow]

/-- Cells of a live block are written. -/
theorem write_inv {b blk sh C o : Nat} {opn : Bool} {xs ys : List D} {cs : Array Value} {e : TypeId} {vs : List Value} (h : Inv β M H w) (hb : H[b]? = some (.cells true opn xs)) (hβ : β b = some (blk, sh, C))
    (hg : w.heap[blk]? = some (.cells cs e (0, 0))) (ho : o + ys.length ≤ xs.length) (hl : vs.length = ys.length) (hv : VE M ys β 1 vs) :
    Inv β M (H.set b (.cells true opn (patch xs o ys))) (w.setRow blk (cs.toList.take (sh + o) ++ vs ++ cs.toList.drop (sh + o + vs.length)).toArray) ∧
    Step H β M w (H.set b (.cells true opn (patch xs o ys))) β M (w.setRow blk (cs.toList.take (sh + o) ++ vs ++ cs.toList.drop (sh + o + vs.length)).toArray) := by
  obtain ⟨hM, cs', e', hg', hC, hsh, hcl, hve⟩ := h.live b blk sh C opn xs hβ hb
  rw [hg] at hg'
  cases hg'
  have hlt : b < H.length := (List.getElem?_eq_some_iff.1 hb).1
  have hnew : (cs.toList.take (sh + o) ++ vs ++ cs.toList.drop (sh + o + vs.length)).length = cs.size := by
    simp only [List.length_append, List.length_take, List.length_drop, Array.length_toList]
    omega
  have hother : ∀ k, k ≠ blk → (w.setRow blk (cs.toList.take (sh + o) ++ vs ++ cs.toList.drop (sh + o + vs.length)).toArray).heap[k]? = w.heap[k]? := fun k hk => setRow_other w blk k _ hk
  refine ⟨⟨?_, ?_, ?_, ?_⟩, ⟨by simp, β.le_refl, M.le_refl, fun _ _ h => .inl h, fun _ _ h => .inl h, rfl, rfl, rfl, by simp [setRow_size], ?_⟩⟩
  · intro k bo cs' hm
    obtain ⟨e', fr, h1⟩ := h.mem k bo cs' hm
    refine ⟨e', fr, ?_⟩
    rw [hother k (fun ek => by rw [ek, hM] at hm; cases hm)]
    exact h1
  · intro x c hx
    exact ⟨by simpa using (h.dom x c hx).1, by simpa using (h.dom x c hx).2⟩
  · intro x blk' sh' C' opn' xs' h1 h2
    by_cases ex : x = b
    · subst ex
      rw [hβ] at h1
      cases h1
      rw [List.getElem?_set_self hlt] at h2
      cases h2
      refine ⟨hM, _, e, setRow_heap w blk cs _ e _ hg, by simpa using hnew.trans hC, by rw [patch_length _ _ _ ho]; exact hsh, fun hc => by rw [patch_length _ _ _ ho]; exact hcl hc, ?_⟩
      have hL := VE_len hve
      have hdrop : (cs.toList.take (sh + o) ++ vs ++ cs.toList.drop (sh + o + vs.length)).drop sh = (cs.toList.drop sh).take o ++ (vs ++ (cs.toList.drop sh).drop (o + vs.length)) := by
        rw [List.append_assoc, List.drop_append_of_le_length (by rw [List.length_take, Array.length_toList]; omega), List.drop_take, List.drop_drop]
        congr 2
        · congr 1; omega
        · congr 1; omega
      rw [hdrop]
      unfold patch
      have hlo : (xs.take o).length = o := by rw [List.length_take]; omega
      have hlo' : ((cs.toList.drop sh).take o).length = o := by rw [List.length_take, List.length_drop, Array.length_toList]; omega
      refine VE_append ?_ ?_
      · refine VE_congr ?_ (VE_take o hve)
        rw [hlo, Nat.mul_one, List.take_left' hlo']
      · rw [hlo, Nat.mul_one, List.drop_left' hlo']
        refine VE_append ?_ ?_
        · refine VE_congr ?_ hv
          rw [Nat.mul_one, ← hl, List.take_left' rfl, List.take_of_length_le (Nat.le_refl _)]
        · rw [Nat.mul_one, ← hl, List.drop_left' rfl]
          have := VE_drop (o + ys.length) hve ho
          rwa [Nat.mul_one, ← hl] at this
    · rw [List.getElem?_set_ne (Ne.symm ex)] at h2
      obtain ⟨h3, cs', e', h4, h5⟩ := h.live x blk' sh' C' opn' xs' h1 h2
      refine ⟨h3, cs', e', ?_, h5⟩
      rw [hother blk' (fun ek => ex (h.inj x b _ _ _ _ _ _ h1 hβ h2 hb ek))]
      exact h4
  · intro x x' c c' o1 l1 o2 l2 hx hx' hl1 hl2 hcc
    have key : ∀ (y : Nat) (o3 : Bool) (l3 : List D), (List.set H b (Blk.cells true opn (patch xs o ys)))[y]? = some (Blk.cells true o3 l3) → ∃ o4 l4, H[y]? = some (Blk.cells true o4 l4) := by
      intro y o3 l3 hy
      by_cases ey : y = b
      · subst ey; exact ⟨opn, xs, hb⟩
      · rw [List.getElem?_set_ne (Ne.symm ey)] at hy; exact ⟨o3, l3, hy⟩
    obtain ⟨o4, l4, h4⟩ := key x _ _ hl1
    obtain ⟨o5, l5, h5⟩ := key x' _ _ hl2
    exact h.inj x x' c c' _ _ _ _ hx hx' h4 h5 hcc
  · intro k hk hn
    exact hother k (fun ek => hn b _ hβ (by simpa using ek.symm))

/-- A block is given up. -/
theorem retire_inv {b : Nat} {opn : Bool} {xs : List D} (h : Inv β M H w) : Inv β M (H.set b (.cells false opn xs)) w := by
  have key : ∀ (y : Nat) (o3 : Bool) (l3 : List D), (List.set H b (Blk.cells false opn xs))[y]? = some (Blk.cells true o3 l3) → H[y]? = some (Blk.cells true o3 l3) := by
    intro y o3 l3 hy
    by_cases ey : y = b
    · subst ey
      by_cases hl : y < H.length
      · rw [List.getElem?_set_self hl] at hy; cases hy
      · rw [List.getElem?_eq_none (by simp; omega)] at hy; cases hy
    · rwa [List.getElem?_set_ne (Ne.symm ey)] at hy
  exact ⟨h.mem, fun x c hx => ⟨by simpa using (h.dom x c hx).1, (h.dom x c hx).2⟩, fun x blk sh C o l h1 h2 => h.live x blk sh C o l h1 (key x o l h2),
    fun x x' c c' _ _ _ _ h1 h2 h3 h4 h5 => h.inj x x' c c' _ _ _ _ h1 h2 (key _ _ _ h3) (key _ _ _ h4) h5⟩

end Go.Mini
