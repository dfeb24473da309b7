/- Laws on rows of cells. -/
import Derived.Test.YtacoaelokdamnaaGreatCore
set_option linter.all false
namespace Go.Mini

theorem VF_len {M : Mem} : ∀ (x : D) {β : Beta} {l : List Value}, VF M x β l → l.length = x.flat.length
  | .s v, _, _, h => by simp only [VF] at h; simp [h.1, D.flat]
  | .agg xs, _, _, h => by simp only [VF] at h; exact h.1
  | .tup xs, _, _, h => by simp only [VF] at h; obtain ⟨vs, rfl, _⟩ := h; rfl
  | .lit k xs, _, _, h => by simp only [VF] at h; obtain ⟨_, _, _, rfl, _⟩ := h; rfl
  | .rp bo x o, _, _, h => by simp only [VF] at h; obtain ⟨_, _, _, _, _, rfl, _⟩ := h; rfl
  | .sl b off n esz _ _, _, _, h => by simp only [VF] at h; obtain ⟨_, _, _, _, rfl, _⟩ := h; rfl
  | .ptr b off, _, _, h => by simp only [VF] at h; obtain ⟨_, _, _, rfl, _⟩ := h; rfl
  | .fn f first cap, _, _, h => by simp only [VF] at h; obtain ⟨_, _, rfl, _⟩ := h; rfl
  | .ifc t x, _, _, h => by simp only [VF] at h; obtain ⟨_, rfl, _⟩ := h; rfl
  | .mp b, _, _, h => by simp only [VF] at h; obtain ⟨_, _, _, rfl, _⟩ := h; rfl
  | .unk u p, _, _, h => by simp only [VF] at h; obtain ⟨_, rfl, _⟩ := h; rfl

/-- Behind a value that is no struct stands one cell that is none. -/
theorem VF_one {M : Mem} : ∀ (x : D) {β : Beta} {l : List Value}, VF M x β l → x.isAgg = false → ∃ v, l = [v] ∧ vAgg v = false
  | .s v, _, _, h, _ => by
    simp only [VF] at h; refine ⟨v, h.1, ?_⟩
    have := h.2; cases v <;> simp_all [atom, vAgg]
  | .agg xs, _, _, h, h' => by simp [D.isAgg] at h'
  | .tup xs, _, _, h, _ => by simp only [VF] at h; obtain ⟨vs, rfl, _⟩ := h; exact ⟨_, rfl, rfl⟩
  | .lit k xs, _, _, h, _ => by simp only [VF] at h; obtain ⟨_, _, _, rfl, _⟩ := h; exact ⟨_, rfl, rfl⟩
  | .rp bo x o, _, _, h, _ => by simp only [VF] at h; obtain ⟨_, _, _, _, _, rfl, _⟩ := h; exact ⟨_, rfl, rfl⟩
  | .sl b off n esz _ _, _, _, h, _ => by simp only [VF] at h; obtain ⟨_, _, _, _, rfl, _⟩ := h; exact ⟨_, rfl, rfl⟩
  | .ptr b off, _, _, h, _ => by simp only [VF] at h; obtain ⟨_, _, _, rfl, _⟩ := h; exact ⟨_, rfl, rfl⟩
  | .fn f first cap, _, _, h, _ => by simp only [VF] at h; obtain ⟨_, _, rfl, _⟩ := h; exact ⟨_, rfl, rfl⟩
  | .ifc t x, _, _, h, _ => by simp only [VF] at h; obtain ⟨_, rfl, _⟩ := h; exact ⟨_, rfl, rfl⟩
  | .mp b, _, _, h, _ => by simp only [VF] at h; obtain ⟨_, _, _, rfl, _⟩ := h; exact ⟨_, rfl, rfl⟩
  | .unk u p, _, _, h, _ => by
    simp only [VF] at h
    obtain ⟨n, rfl, _⟩ := h
    exact ⟨_, rfl, bitsV_ok u n⟩

theorem cells_one {v : Value} (h : vAgg v = false) : v.cells.toList = [v] := by
  cases v <;> simp_all [Value.cells, vAgg]

/-- A cell's value, from its cell. -/
theorem VV_cell {M : Mem} {x : D} {β : Beta} {v : Value} (h : VF M x β [v]) (hx : x.isAgg = false) : VV M β x v := by
  obtain ⟨v', h1, h2⟩ := VF_one x h hx
  cases h1
  exact ⟨by rw [h2, hx], by rw [cells_one h2]; exact h⟩

theorem VV_agg {M : Mem} {xs : List D} {β : Beta} {cs : Array Value} (h1 : cs.size = xs.length) (h2 : VE M xs β 1 cs.toList) : VV M β (.agg xs) (.agg cs) := by
  refine ⟨rfl, ?_⟩
  simp only [VF, Value.cells]
  exact ⟨by simpa using h1, h2⟩

theorem VV_nonagg {M : Mem} {x : D} {β : Beta} {v : Value} (h : VV M β x v) (hx : x.isAgg = false) : VF M x β [v] := by
  have := h.2
  rwa [cells_one (by rw [h.1, hx])] at this

variable {M : Mem} {β : Beta} {e : Nat}

theorem VE_nil {l : List Value} : VE M [] β e l := by simp only [VE]

theorem VE_len : ∀ {xs : List D} {l : List Value}, VE M xs β e l → xs.length * e ≤ l.length
  | [], _, _ => by simp
  | x :: xs, l, h => by
    simp only [VE] at h
    have := VE_len h.2.2.2
    rw [List.length_drop] at this
    rw [List.length_cons, Nat.succ_mul]
    omega

theorem VE_get : ∀ {xs : List D} {l : List Value} {i : Nat} {x : D}, VE M xs β e l → xs[i]? = some x → x.flat.length = e ∧ VF M x β ((l.drop (i * e)).take e)
  | x :: xs, l, 0, y, h, hi => by
    simp only [VE] at h
    simp at hi
    subst hi
    simpa using ⟨h.2.1, h.2.2.1⟩
  | x :: xs, l, i + 1, y, h, hi => by
    simp only [VE] at h
    have := VE_get (i := i) h.2.2.2 (by simpa using hi)
    rw [List.drop_drop] at this
    rw [Nat.succ_mul, Nat.add_comm]
    exact this
  | [], _, _, _, _, hi => by simp at hi

theorem VE_append : ∀ {xs ys : List D} {l : List Value}, VE M xs β e l → VE M ys β e (l.drop (xs.length * e)) → VE M (xs ++ ys) β e l
  | [], ys, l, _, h => by simpa using h
  | x :: xs, ys, l, h, k => by
    simp only [VE, List.cons_append] at h ⊢
    refine ⟨h.1, h.2.1, h.2.2.1, VE_append h.2.2.2 ?_⟩
    rw [List.drop_drop]
    rw [List.length_cons, Nat.succ_mul, Nat.add_comm] at k
    exact k

theorem VE_left : ∀ {xs ys : List D} {l : List Value}, VE M (xs ++ ys) β e l → VE M xs β e l
  | [], _, _, _ => VE_nil
  | x :: xs, ys, l, h => by
    simp only [VE, List.cons_append] at h ⊢
    exact ⟨h.1, h.2.1, h.2.2.1, VE_left h.2.2.2⟩

theorem VE_right : ∀ {xs ys : List D} {l : List Value}, VE M (xs ++ ys) β e l → VE M ys β e (l.drop (xs.length * e))
  | [], _, _, h => by simpa using h
  | x :: xs, ys, l, h => by
    simp only [VE, List.cons_append] at h
    have := VE_right h.2.2.2
    rw [List.drop_drop] at this
    rw [List.length_cons, Nat.succ_mul, Nat.add_comm]
    exact this

theorem VE_take {xs : List D} {l : List Value} (n : Nat) (h : VE M xs β e l) : VE M (xs.take n) β e l := VE_left (ys := xs.drop n) (by rwa [List.take_append_drop])
theorem VE_drop {xs : List D} {l : List Value} (n : Nat) (h : VE M xs β e l) (hn : n ≤ xs.length) : VE M (xs.drop n) β e (l.drop (n * e)) := by
  have := VE_right (xs := xs.take n) (ys := xs.drop n) (by rwa [List.take_append_drop])
  rwa [List.length_take, Nat.min_eq_left hn] at this

/-- Only the cells that are the elements' own count. -/
theorem VE_congr : ∀ {xs : List D} {l l' : List Value}, l.take (xs.length * e) = l'.take (xs.length * e) → VE M xs β e l → VE M xs β e l'
  | [], _, _, _, _ => VE_nil
  | x :: xs, l, l', hl, h => by
    have hlen := VE_len h
    simp only [VE] at h ⊢
    rw [List.length_cons, Nat.succ_mul] at hl hlen
    have hll : xs.length * e + e ≤ l'.length := by
      have := congrArg List.length hl
      rw [List.length_take, List.length_take] at this
      omega
    have h1 : l.take e = l'.take e := by
      have := congrArg (List.take e) hl
      rwa [List.take_take, List.take_take, Nat.min_eq_left (Nat.le_add_left _ _)] at this
    have h2 : (l.drop e).take (xs.length * e) = (l'.drop e).take (xs.length * e) := by
      have := congrArg (List.drop e) hl
      rwa [List.drop_take, List.drop_take, Nat.add_sub_cancel] at this
    exact ⟨by omega, h.2.1, h1 ▸ h.2.2.1, VE_congr h2 h.2.2.2⟩

theorem VE_prefix {xs : List D} {l : List Value} {n : Nat} (hn : xs.length * e ≤ n) (h : VE M xs β e l) : VE M xs β e (l.take n) :=
  VE_congr (by rw [List.take_take, Nat.min_eq_left hn]) h
theorem VE_of_prefix {xs : List D} {l : List Value} {n : Nat} (hn : xs.length * e ≤ n) (h : VE M xs β e (l.take n)) : VE M xs β e l :=
  VE_congr (by rw [List.take_take, Nat.min_eq_left hn]) h

/-- Another element in a place. -/
theorem VE_set {xs : List D} {l l' : List Value} {i : Nat} {x : D} (hi : i < xs.length) (h : VE M xs β e l) (hx : x.flat.length = e) (hv : VF M x β ((l'.drop (i * e)).take e))
    (h1 : l'.take (i * e) = l.take (i * e)) (h2 : l'.drop (i * e + e) = l.drop (i * e + e)) (hlen : l'.length = l.length) : VE M (xs.set i x) β e l' := by
  have hL := VE_len h
  have hs : i * e + e ≤ l.length := by
    have : (i + 1) * e ≤ xs.length * e := Nat.mul_le_mul_right _ hi
    rw [Nat.succ_mul] at this
    omega
  have hset : xs.set i x = xs.take i ++ (x :: xs.drop (i + 1)) := by
    rw [List.set_eq_take_append_cons_drop]; simp [hi]
  rw [hset]
  have hti : (xs.take i).length * e = i * e := by rw [List.length_take, Nat.min_eq_left (Nat.le_of_lt hi)]
  refine VE_append (VE_congr (l := l) (by rw [hti, h1]) (VE_take i h)) ?_
  rw [hti]
  simp only [VE]
  refine ⟨by rw [List.length_drop]; omega, hx, hv, ?_⟩
  rw [List.drop_drop, h2]
  have := VE_drop (i + 1) h hi
  rwa [Nat.succ_mul] at this

/-- Cells as one struct; and a struct's cells. -/
theorem VF_cells {xs : List D} {l : List Value} (n : Nat) (hn : n ≤ xs.length) (h : VE M xs β 1 l) : VF M (.agg (xs.take n)) β (l.take n) := by
  have hL := VE_len h
  simp only [VF]
  refine ⟨by rw [List.length_take, List.length_take]; omega, VE_prefix (by rw [List.length_take]; omega) (VE_take n h)⟩

theorem VE_flat : ∀ {x : D} {l : List Value}, VF M x β l → VE M x.flat β 1 l
  | .agg xs, l, h => by simp only [VF] at h; exact h.2
  | .s v, l, h => by have := VF_len _ h; simp only [D.flat, List.length_singleton] at this; simp only [D.flat, VE]; refine ⟨by omega, rfl, by rwa [List.take_of_length_le (by omega)], trivial⟩
  | .tup v, l, h => by have := VF_len _ h; simp only [D.flat, List.length_singleton] at this; simp only [D.flat, VE]; refine ⟨by omega, rfl, by rwa [List.take_of_length_le (by omega)], trivial⟩
  | .lit k v, l, h => by have := VF_len _ h; simp only [D.flat, List.length_singleton] at this; simp only [D.flat, VE]; refine ⟨by omega, rfl, by rwa [List.take_of_length_le (by omega)], trivial⟩
  | .rp b x o, l, h => by have := VF_len _ h; simp only [D.flat, List.length_singleton] at this; simp only [D.flat, VE]; refine ⟨by omega, rfl, by rwa [List.take_of_length_le (by omega)], trivial⟩
  | .sl b off n esz ag _, l, h => by have := VF_len _ h; simp only [D.flat, List.length_singleton] at this; simp only [D.flat, VE]; refine ⟨by omega, rfl, by rwa [List.take_of_length_le (by omega)], trivial⟩
  | .ptr b off, l, h => by have := VF_len _ h; simp only [D.flat, List.length_singleton] at this; simp only [D.flat, VE]; refine ⟨by omega, rfl, by rwa [List.take_of_length_le (by omega)], trivial⟩
  | .fn f a b, l, h => by have := VF_len _ h; simp only [D.flat, List.length_singleton] at this; simp only [D.flat, VE]; refine ⟨by omega, rfl, by rwa [List.take_of_length_le (by omega)], trivial⟩
  | .ifc t x, l, h => by have := VF_len _ h; simp only [D.flat, List.length_singleton] at this; simp only [D.flat, VE]; refine ⟨by omega, rfl, by rwa [List.take_of_length_le (by omega)], trivial⟩
  | .mp b, l, h => by have := VF_len _ h; simp only [D.flat, List.length_singleton] at this; simp only [D.flat, VE]; refine ⟨by omega, rfl, by rwa [List.take_of_length_le (by omega)], trivial⟩
  | .unk u p, l, h => by have := VF_len _ h; simp only [D.flat, List.length_singleton] at this; simp only [D.flat, VE]; refine ⟨by omega, rfl, by rwa [List.take_of_length_le (by omega)], trivial⟩

theorem VE_one_cons {x : D} {xs : List D} {l : List Value} : VE M (x :: xs) β 1 l ↔ ∃ v r, l = v :: r ∧ x.flat.length = 1 ∧ VF M x β [v] ∧ VE M xs β 1 r := by
  simp only [VE]
  constructor
  · rintro ⟨h1, h2, h3, h4⟩
    cases l with
    | nil => simp at h1
    | cons v r => exact ⟨v, r, rfl, h2, by simpa using h3, by simpa using h4⟩
  · rintro ⟨v, r, rfl, h2, h3, h4⟩
    exact ⟨by simp, h2, by simpa using h3, by simpa using h4⟩

/-- Cells taken together, e at a time: structs (ag), or one cell each. -/
def chunks (e : Nat) (ag : Bool) : (n : Nat) → List D → List D
  | 0, _ => []
  | n + 1, xs => (if ag then .agg (xs.take e) else (xs.take e).headD (.tup [])) :: chunks e ag n (xs.drop e)
theorem chunks_length (e : Nat) (ag : Bool) : ∀ (n : Nat) (xs : List D), (chunks e ag n xs).length = n
  | 0, _ => rfl
  | n + 1, xs => by simp [chunks, chunks_length e ag n]
theorem VE_chunks (ag : Bool) (he : ag = false → e = 1) : ∀ (n : Nat) {xs : List D} {l : List Value}, n * e ≤ xs.length → (ag = false → ∀ x ∈ xs, x.isAgg = false) → VE M xs β 1 l → VE M (chunks e ag n xs) β e l
  | 0, _, _, _, _, _ => VE_nil
  | n + 1, xs, l, hn, hc, h => by
    have hL := VE_len h
    rw [Nat.succ_mul] at hn
    simp only [chunks, VE]
    have htail := VE_chunks ag he n (xs := xs.drop e) (l := l.drop e) (by rw [List.length_drop]; omega) (fun h x hx => hc h x (List.mem_of_mem_drop hx)) (by have := VE_drop e h (by omega); simpa using this)
    cases ag with
    | true =>
      simp only [if_true]
      exact ⟨by omega, by simp [D.flat]; omega, VF_cells e (by omega) h, htail⟩
    | false =>
      have he1 := he rfl
      subst he1
      cases xs with
      | nil => simp at hn
      | cons x xs =>
        obtain ⟨v, r, rfl, h2, h3, h4⟩ := VE_one_cons.1 h
        simp only [Bool.false_eq_true, if_false, List.take_succ_cons, List.take_zero, List.headD_cons]
        exact ⟨by simp, h2, by simpa using h3, htail⟩

end Go.Mini
