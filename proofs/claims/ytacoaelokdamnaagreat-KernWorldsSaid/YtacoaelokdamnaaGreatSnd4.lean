/- Regions whose order is open: the proof. -/
import Derived.Test.YtacoaelokdamnaaGreatSnd3b
set_option linter.all false
set_option linter.unusedSimpArgs false
set_option linter.unusedVariables false
namespace Go.Mini

theorem matAll_get {P : Program} {nt : Nat} {ops : List Oper} : ∀ {l : List Oper} {ins : List Ins}, matAll P nt ops l ins = true → l.length = ins.length ∧ ∀ (j : Nat) (o : Oper) (x : Ins), l[j]? = some o → ins[j]? = some x → matIns P nt ops o x = true
  | [], [], _ => ⟨rfl, fun j o x h => by simp at h⟩
  | o :: l, x :: ins, h => by
    simp only [matAll, Bool.and_eq_true] at h
    obtain ⟨h1, h2⟩ := matAll_get h.2
    refine ⟨by simp [h1], fun j o' x' ho hx => ?_⟩
    cases j with
    | zero => simp at ho hx; subst ho; subst hx; exact h.1
    | succ j => exact h2 j o' x' (by simpa using ho) (by simpa using hx)
  | [], _ :: _, h => by simp [matAll] at h
  | _ :: _, [], h => by simp [matAll] at h

variable {P : Program} {cx : Cx} {nt : Nat} {ops : Array Oper} {ins : List Ins} {pk : List Nat} {fp : List (Nat × Nat)} {m : Nat} {Es : Nat → Env} {Hs : Nat → Heap} {ds : Nat → D} {H0 : Heap} {β0 : Beta} {M0 : Mem} {w0 : World} {df : List Dfd}

structure Fx (P : Program) (cx : Cx) (nt : Nat) (ops : Array Oper) (ins : List Ins) (pk : List Nat) (fp : List (Nat × Nat)) (m : Nat) (Es : Nat → Env) (Hs : Nat → Heap) (ds : Nat → D) (H0 : Heap) : Prop where
  mat : matAll P nt ops.toList ops.toList ins = true
  low : edgesLow 0 ops.toList = true
  alk : allocsOk ins = true
  prs : pairsOk (ancs ops.toList []) pk fp 0 ins = true
  hs0 : Hs 0 = H0 ++ allocsOf ins
  tr : Tr cx ins m H0.length Es Hs ds
  ml : m ≤ ins.length
  stop : m < ins.length → pk.contains m = true
  fps : ∀ i j, inFp fp i j = true → ∃ x y p n ag, ins[i]? = some x ∧ ins[j]? = some y ∧ x.op = .load p n ag ∧ y.op.cls = 2 ∧
    (j < m → i < m → wants x.g (Es i) = some true → ∀ d, p.ev (Es i) = some d → ldp (Hs (j + 1)) d n ag = ldp (Hs j) d n ag)

/-- An operation's ancestors. -/
def anc (ops : Array Oper) (j i : Nat) : Prop := ((ancs ops.toList []).getD j 0).testBit i = true
def Ld (listed : Array Bool) (i : Nat) : Prop := listed.getD i false = true

theorem Fx.pair (F : Fx P cx nt ops ins pk fp m Es Hs ds H0) {i j : Nat} {x y : Ins} (h : i < j) (hx : ins[i]? = some x) (hy : ins[j]? = some y) :
    noSame x.dst y.dst = true ∧ (anc ops j i ∨ ((notIn x.dst y.reads = true ∧ notIn y.dst x.reads = true ∧ (conflict x.op.cls y.op.cls = false ∨ inFp fp i j = true ∨ inFp fp j i = true)) ∧ ¬ (x.op.cls = 3 ∧ y.op.cls = 2) ∧ (pk.contains i = true → y.op.isMov = true) ∧ (pk.contains j = true → x.op.isMov = true))) := by
  have := pairsOk_spec F.prs i j x y h hx hy
  simp only [pairOk, Nat.zero_add, Bool.and_eq_true, Bool.or_eq_true, Bool.not_eq_true', Bool.and_eq_false_iff] at this
  obtain ⟨h1, h3⟩ := this
  refine ⟨h1, h3.imp id ?_⟩
  · rintro ⟨⟨⟨⟨⟨q0, q0'⟩, q1⟩, q5⟩, q2⟩, q3⟩
    refine ⟨⟨q0, q0', ?_⟩, ?_, fun hp => ?_, fun hp => ?_⟩
    · rcases q1 with (q1 | q1) | q1
      · exact .inl q1
      · exact .inr (.inl q1)
      · exact .inr (.inr q1)
    · rintro ⟨r1, r2⟩
      rw [r1, r2] at q5
      rcases q5 with q5 | q5 <;> cases q5
    · rcases q2 with q2 | q2
      · rw [hp] at q2; cases q2
      · exact q2
    · rcases q3 with q3 | q3
      · rw [hp] at q3; cases q3
      · exact q3

theorem Fx.uniq (F : Fx P cx nt ops ins pk fp m Es Hs ds H0) {i j : Nat} {x y : Ins} {t : Nat} (hx : ins[i]? = some x) (hy : ins[j]? = some y) (h1 : x.dst = some t) (h2 : y.dst = some t) : i = j := by
  have no : ∀ {i j : Nat} {x y : Ins}, ins[i]? = some x → ins[j]? = some y → x.dst = some t → y.dst = some t → ¬ i < j := by
    intro i j x y hx hy h1 h2 h
    have := (F.pair h hx hy).1
    rw [h1, h2] at this
    simp [noSame] at this
  have a := no hx hy h1 h2
  have b := no hy hx h2 h1
  omega

theorem Fx.env_none (F : Fx P cx nt ops ins pk fp m Es Hs ds H0) {t : Nat} : ∀ {j : Nat}, j ≤ m → (∀ i x, i < j → ins[i]? = some x → x.dst ≠ some t) → look t (Es j) = look t (Es 0)
  | 0, _, _ => rfl
  | j + 1, h, hn => by
    have hj : j < ins.length := by have := F.ml; omega
    have hx : ins[j]? = some ins[j] := by simp [hj]
    rw [F.tr.env j _ (by omega) hx]
    have := hn j _ (by omega) hx
    have ih := F.env_none (j := j) (by omega) (fun i x hi hx => hn i x (by omega) hx)
    cases hd : ins[j].dst with
    | none => simpa [putD] using ih
    | some u =>
      have hu : t ≠ u := fun e => this (by rw [hd, e])
      simp only [putD]
      rw [look_put_other _ _ hu]
      exact ih

theorem Fx.env_some (F : Fx P cx nt ops ins pk fp m Es Hs ds H0) {t : Nat} {i : Nat} {x : Ins} (hx : ins[i]? = some x) (hd : x.dst = some t) : ∀ {j : Nat}, j ≤ m → i < j → look t (Es j) = some (ds i)
  | 0, _, h => by omega
  | j + 1, h, hi => by
    have hj : j < ins.length := by have := F.ml; omega
    have hy : ins[j]? = some ins[j] := by simp [hj]
    rw [F.tr.env j _ (by omega) hy]
    by_cases e : i = j
    · subst e
      rw [hx] at hy
      cases hy
      rw [hd]
      simp [putD, look_put_same]
    · have ih := F.env_some hx hd (j := j) (by omega) (by omega)
      cases hd' : ins[j].dst with
      | none => simpa [putD] using ih
      | some u =>
        have hu : t ≠ u := fun e' => e (F.uniq hx hy hd (by rw [hd', e']))
        simp only [putD]
        rw [look_put_other _ _ hu]
        exact ih

/-- Between operations that leave the heap alone. -/
theorem Fx.heap_step (F : Fx P cx nt ops ins pk fp m Es Hs ds H0) {j : Nat} {x : Ins} (hj : j < m) (hx : ins[j]? = some x) (hc : x.op.cls ≠ 2) : Hs (j + 1) = Hs j := by
  rcases F.tr.step j x hj hx with ⟨_, _, h⟩ | ⟨_, _, _, h⟩ | ⟨h3, _, h⟩
  · exact h
  · exact h
  · exact cls_heap hc h3 h

theorem Fx.heap_const (F : Fx P cx nt ops ins pk fp m Es Hs ds H0) {p : Nat} : ∀ {q : Nat}, p ≤ q → q ≤ m → (∀ i x, p ≤ i → i < q → ins[i]? = some x → x.op.cls ≠ 2) → Hs q = Hs p
  | 0, h, _, _ => by have : p = 0 := by omega
                     subst this; rfl
  | q + 1, h, hm, hn => by
    by_cases e : p = q + 1
    · subst e; rfl
    · have hj : q < ins.length := by have := F.ml; omega
      have hx : ins[q]? = some ins[q] := by simp [hj]
      rw [F.heap_step (by omega) hx (hn q _ (by omega) (by omega) hx)]
      exact F.heap_const (by omega) (by omega) (fun i x h1 h2 => hn i x h1 (by omega))

/-- What holds behind each operation, in whatever order. -/
structure DI (ops : Array Oper) (ins : List Ins) (nt m : Nat) (E0 : Env) (Hs : Nat → Heap) (ds : Nat → D) (β0 : Beta) (M0 : Mem) (H0 : Heap) (w0 : World) (df : List Dfd) (listed : Array Bool) (a : Act) (w : World) (β : Beta) (M : Mem) (H : Heap) : Prop where
  lsz : listed.size = ops.size
  inv : Inv β M H w
  stp : Step H0 β0 M0 w0 H β M w
  closed : ∀ i, Ld listed i → ∀ k, anc ops i k → Ld listed k
  stage : ∃ k, k ≤ m ∧ H = Hs k ∧ ∀ i x, i < m → ins[i]? = some x → x.op.cls = 2 → (Ld listed i ↔ i < k)
  below : ∀ i x, Ld listed i → ins[i]? = some x → i < m ∨ (m < i ∧ x.op.isMov = true)
  tsz : nt ≤ a.tmps.size
  dfr : DR M β df a.defers
  tm1 : ∀ t i x, ins[i]? = some x → x.dst = some t → Ld listed i → i < m → VV M β (ds i) (a.tmps.getD t undef)
  tm2 : ∀ t d, (∀ i x, ins[i]? = some x → x.dst = some t → ¬ Ld listed i) → look t E0 = some d → VV M β d (a.tmps.getD t undef)
  unpl : ∀ i x, ins[i]? = some x → x.op.cls = 3 → ¬ Ld listed i → β (H0.length + nal ins i) = none
  hlen : (H0 ++ allocsOf ins).length ≤ H.length

variable {listed : Array Bool} {a : Act} {w : World} {β : Beta} {M : Mem} {H : Heap} {E0 : Env}

theorem Ld_set {listed : Array Bool} {i j : Nat} (h : j < listed.size) : Ld (listed.setIfInBounds j true) i ↔ i = j ∨ Ld listed i := by
  unfold Ld
  by_cases e : j = i
  · subst e; simp [h]
  · rw [getD_set_ne false e]
    constructor
    · exact .inr
    · rintro (h | h)
      · exact absurd h.symm e
      · exact h

/-- Whoever is next: what it stands behind is done, what stands behind it isn't. -/
structure Nxt (ops : Array Oper) (listed : Array Bool) (j : Nat) : Prop where
  lt : j < ops.size
  un : ¬ Ld listed j
  up : ∀ k, anc ops j k → Ld listed k

theorem nxt_of_ready (hl : listed.size = ops.size) (hc : ∀ i, Ld listed i → ∀ k, anc ops i k → Ld listed k) {j : Nat} (h : j ∈ Region.ready .any ops listed) : Nxt ops listed j := by
  obtain ⟨h1, o, ho, h2⟩ := mem_ready.1 h
  have hlt : j < ops.size := (Array.getElem?_eq_some_iff.1 ho).1
  refine ⟨hlt, ?_, ?_⟩
  · unfold Ld
    have hlt' : j < listed.size := by omega
    simp only [Array.getD_eq_getD_getElem?, Array.getElem?_eq_getElem hlt', Option.getD_some] at h1 ⊢
    rw [h1]; simp
  · intro k hk
    obtain ⟨e, he, hb, hor⟩ := ancs_spec ops.toList [] j o (by simpa using ho) k (by simpa [anc] using hk)
    have := h2 e (by simpa using he) hb
    rcases hor with rfl | hor
    · exact this
    · exact hc e.on this k hor

/-- Two of which one must stand before the other. -/
def Near (fp : List (Nat × Nat)) (i j : Nat) (x y : Ins) : Prop :=
  (∃ t, x.dst = some t ∧ t ∈ y.reads) ∨ (∃ t, y.dst = some t ∧ t ∈ x.reads) ∨ (conflict x.op.cls y.op.cls = true ∧ inFp fp i j = false ∧ inFp fp j i = false)

theorem conflict_symm {a b : Nat} (h : conflict a b = true) : conflict b a = true := by
  unfold conflict at h ⊢
  rw [Bool.or_comm]
  exact h

theorem Near.symm {fp : List (Nat × Nat)} {i j : Nat} {x y : Ins} (h : Near fp i j x y) : Near fp j i y x := by
  rcases h with h | h | ⟨h1, h2, h3⟩
  · exact .inr (.inl h)
  · exact .inl h
  · exact .inr (.inr ⟨conflict_symm h1, h3, h2⟩)

theorem Fx.near (F : Fx P cx nt ops ins pk fp m Es Hs ds H0) {i j : Nat} {x y : Ins} (hij : i < j) (hx : ins[i]? = some x) (hy : ins[j]? = some y) (h : Near fp i j x y) : anc ops j i := by
  rcases (F.pair hij hx hy).2 with h1 | ⟨⟨h1, h2, h3⟩, _⟩
  · exact h1
  · exfalso
    rcases h with ⟨t, q1, q2⟩ | ⟨t, q1, q2⟩ | ⟨q1, q2, q3⟩
    · rw [q1] at h1; exact notIn_spec h1 q2
    · rw [q1] at h2; exact notIn_spec h2 q2
    · rcases h3 with h3 | h3 | h3
      · rw [h3] at q1; cases q1
      · rw [h3] at q2; cases q2
      · rw [h3] at q3; cases q3

theorem Fx.dep (F : Fx P cx nt ops ins pk fp m Es Hs ds H0) {i j : Nat} {x y : Ins} (hij : i ≠ j) (hx : ins[i]? = some x) (hy : ins[j]? = some y) (hb : Near fp i j x y) : (i < j ∧ anc ops j i) ∨ (j < i ∧ anc ops i j) := by
  rcases Nat.lt_or_gt_of_ne hij with h | h
  · exact .inl ⟨h, F.near h hx hy hb⟩
  · exact .inr ⟨h, F.near h hy hx hb.symm⟩

/-- Who depends on whom: done or not, as the text has it. -/
theorem Fx.done (F : Fx P cx nt ops ins pk fp m Es Hs ds H0) (hc : ∀ i, Ld listed i → ∀ k, anc ops i k → Ld listed k) {j : Nat} (hn : Nxt ops listed j) {i : Nat} {x y : Ins} (hij : i ≠ j) (hx : ins[i]? = some x) (hy : ins[j]? = some y) (hb : Near fp i j x y) :
    Ld listed i ↔ i < j := by
  rcases F.dep hij hx hy hb with ⟨h1, h2⟩ | ⟨h1, h2⟩
  · exact ⟨fun _ => h1, fun _ => hn.up i h2⟩
  · exact ⟨fun h => absurd (hc i h j h2) hn.un, fun h => by omega⟩

theorem conflict_two {a b : Nat} (h : a = 2) (hb : b ≠ 0) (hb3 : b ≠ 3) : conflict a b = true := by
  subst h
  have h3 : Nat.beq b 3 = false := by
    cases h' : Nat.beq b 3 with
    | false => rfl
    | true => exact absurd (Nat.eq_of_beq_eq_true h') hb3
  have : Nat.beq b 0 = false := by
    cases h' : Nat.beq b 0 with
    | false => rfl
    | true => exact absurd (Nat.eq_of_beq_eq_true h') hb
  simp [conflict, this, h3]

/-- A write, and one that isn't a load floating beside it. -/
theorem Fx.near_cls (F : Fx P cx nt ops ins pk fp m Es Hs ds H0) {i j : Nat} {x y : Ins} (hx : ins[i]? = some x) (h : x.op.cls = 2) (hy : y.op.cls ≠ 0) (hy3 : y.op.cls ≠ 3) (hf : inFp fp j i = false) : Near fp i j x y := by
  refine .inr (.inr ⟨conflict_two h hy hy3, ?_, hf⟩)
  cases h' : inFp fp i j with
  | false => rfl
  | true =>
    obtain ⟨x', y', p, n, ag, q1, _, q3, _⟩ := F.fps i j h'
    rw [hx] at q1
    cases q1
    rw [q3] at h
    simp [IOp.cls] at h

theorem Fx.near_two (F : Fx P cx nt ops ins pk fp m Es Hs ds H0) {i j : Nat} {x y : Ins} (hx : ins[i]? = some x) (hy : ins[j]? = some y) (h : x.op.cls = 2) (h2 : y.op.cls ≠ 0) (h23 : y.op.cls ≠ 3) (h3 : ∀ p n ag, y.op ≠ .load p n ag) : Near fp i j x y := by
  refine F.near_cls hx h h2 h23 ?_
  cases h' : inFp fp j i with
  | false => rfl
  | true =>
    obtain ⟨x', y', p, n, ag, q1, _, q3, _⟩ := F.fps j i h'
    rw [hy] at q1
    cases q1
    exact absurd q3 (h3 p n ag)

theorem cls2_noload {y : Ins} (h : y.op.cls = 2) : ∀ p n ag, y.op ≠ .load p n ag := by
  intro p n ag e
  rw [e] at h
  simp [IOp.cls] at h

/-- The operands, as in the text's order. -/
theorem DI.reads (F : Fx P cx nt ops ins pk fp m Es Hs ds H0) (he : Es 0 = E0) (W : DI ops ins nt m E0 Hs ds β0 M0 H0 w0 df listed a w β M H) {j : Nat} {y : Ins} (hn : Nxt ops listed j) (hy : ins[j]? = some y) (hj : j ≤ m) {t : Nat} {d : D} (ht : t ∈ y.reads) (hl : look t (Es j) = some d) :
    VV M β d (a.tmps.getD t undef) := by
  by_cases hw : ∃ i x, i < j ∧ ins[i]? = some x ∧ x.dst = some t
  · obtain ⟨i, x, hi, hx, hd⟩ := hw
    rw [F.env_some hx hd hj hi] at hl
    cases hl
    have := (F.done W.closed hn (by omega) hx hy (.inl ⟨t, hd, ht⟩)).2 hi
    exact W.tm1 t i x hx hd this (by omega)
  · have hw' : ∀ i x, i < j → ins[i]? = some x → x.dst ≠ some t := fun i x h1 h2 h3 => hw ⟨i, x, h1, h2, h3⟩
    rw [F.env_none hj hw', he] at hl
    refine W.tm2 t d ?_ hl
    intro i x hx hd hL
    by_cases e : i = j
    · subst e; exact hn.un hL
    · exact hw' i x ((F.done W.closed hn e hx hy (.inl ⟨t, hd, ht⟩)).1 hL) hx hd

/-- The heap, as in the text's order. -/
theorem DI.heap (F : Fx P cx nt ops ins pk fp m Es Hs ds H0) (W : DI ops ins nt m E0 Hs ds β0 M0 H0 w0 df listed a w β M H) {j : Nat} {y : Ins} (hn : Nxt ops listed j) (hy : ins[j]? = some y) (hj : j ≤ m) (hc : y.op.cls ≠ 0) (hc3 : y.op.cls ≠ 3) (hnl : ∀ p n ag, y.op ≠ .load p n ag) : H = Hs j := by
  obtain ⟨k, hk, rfl, hs⟩ := W.stage
  have hL : ∀ i x, i < m → ins[i]? = some x → x.op.cls = 2 → i ≠ j → (i < k ↔ i < j) := fun i x h1 h2 h3 h4 => by
    rw [← hs i x h1 h2 h3]
    exact F.done W.closed hn h4 h2 hy (F.near_two h2 hy h3 hc hc3 hnl)
  have hj' : ∀ x, j < m → ins[j]? = some x → x.op.cls = 2 → ¬ j < k := fun x h1 h2 h3 h4 => hn.un ((hs j x h1 h2 h3).2 h4)
  rcases Nat.le_total j k with h | h
  · refine F.heap_const h hk ?_
    intro i x h1 h2 h3 h4
    by_cases e : i = j
    · subst e; exact hj' x (by omega) h3 h4 h2
    · have := (hL i x (by omega) h3 h4 e).1 h2
      omega
  · symm
    refine F.heap_const h hj ?_
    intro i x h1 h2 h3 h4
    have := (hL i x (by omega) h3 h4 (by omega)).2 h2
    omega

/-- What a load reads, over writes that it floats beside. -/
theorem Fx.load_const (F : Fx P cx nt ops ins pk fp m Es Hs ds H0) {j : Nat} {y : Ins} {p : Opd} {n : Nat} {ag : Bool} {d : D} (hy : ins[j]? = some y) (hop : y.op = .load p n ag) (hjm : j < m) (hw : wants y.g (Es j) = some true) (hd : p.ev (Es j) = some d) {q : Nat} :
    ∀ {r : Nat}, q ≤ r → r ≤ m → (∀ i x, q ≤ i → i < r → ins[i]? = some x → x.op.cls = 2 → inFp fp j i = true) → ldp (Hs r) d n ag = ldp (Hs q) d n ag
  | 0, h, _, _ => by have : q = 0 := by omega
                     subst this; rfl
  | r + 1, h, hm, hn => by
    by_cases e : q = r + 1
    · subst e; rfl
    · have hj : r < ins.length := by have := F.ml; omega
      have hx : ins[r]? = some ins[r] := by simp [hj]
      have ih := F.load_const hy hop hjm hw hd (q := q) (r := r) (by omega) (by omega) (fun i x h1 h2 => hn i x h1 (by omega))
      by_cases hc : ins[r].op.cls = 2
      · have hf := hn r _ (by omega) (by omega) hx hc
        obtain ⟨x', y', p', n', ag', q1, q2, q3, q4, q5⟩ := F.fps j r hf
        rw [hy] at q1
        cases q1
        rw [hop] at q3
        cases q3
        rw [q5 (by omega) hjm hw d hd]
        exact ih
      · rw [F.heap_step (by omega) hx hc]
        exact ih

/-- A load reads as in the text's order. -/
theorem DI.load (F : Fx P cx nt ops ins pk fp m Es Hs ds H0) (W : DI ops ins nt m E0 Hs ds β0 M0 H0 w0 df listed a w β M H) {j : Nat} {y : Ins} {p : Opd} {n : Nat} {ag : Bool} {d : D} (hn : Nxt ops listed j) (hy : ins[j]? = some y) (hop : y.op = .load p n ag) (hj : j < m)
    (hw : wants y.g (Es j) = some true) (hd : p.ev (Es j) = some d) : ldp H d n ag = ldp (Hs j) d n ag := by
  obtain ⟨k, hk, rfl, hs⟩ := W.stage
  have hc : y.op.cls ≠ 0 := by rw [hop]; simp [IOp.cls]
  have hc3 : y.op.cls ≠ 3 := by rw [hop]; simp [IOp.cls]
  have hL : ∀ i x, i < m → ins[i]? = some x → x.op.cls = 2 → inFp fp j i = false → (i < k ↔ i < j) := fun i x h1 h2 h3 h4 => by
    rw [← hs i x h1 h2 h3]
    have hij : i ≠ j := by
      rintro rfl
      rw [hy] at h2
      cases h2
      rw [hop] at h3
      simp [IOp.cls] at h3
    exact F.done W.closed hn hij h2 hy (F.near_cls h2 h3 hc hc3 h4)
  rcases Nat.le_total j k with h | h
  · refine F.load_const hy hop hj hw hd h hk ?_
    intro i x h1 h2 h3 h4
    cases hf : inFp fp j i with
    | true => rfl
    | false =>
      have := (hL i x (by omega) h3 h4 hf).1 h2
      omega
  · symm
    refine F.load_const hy hop hj hw hd h (Nat.le_of_lt hj) ?_
    intro i x h1 h2 h3 h4
    cases hf : inFp fp j i with
    | true => rfl
    | false =>
      have := (hL i x (by omega) h3 h4 hf).2 h2
      omega

theorem put_put_ok {nt : Nat} {dst dst' : Option Nat} (h : matDst nt dst dst' = true) : dst = dst' ∧ ∀ t, dst' = some t → t < nt := by
  unfold matDst at h
  split at h
  · exact ⟨rfl, fun t h => by cases h⟩
  · simp only [Bool.and_eq_true] at h
    obtain rfl := Nat.eq_of_beq_eq_true h.1
    exact ⟨rfl, fun t h' => by cases h'; exact Nat.le_of_ble_eq_true h.2⟩
  · cases h

/-- One operation more. -/
theorem DI.next (F : Fx P cx nt ops ins pk fp m Es Hs ds H0) (W : DI ops ins nt m E0 Hs ds β0 M0 H0 w0 df listed a w β M H) {j : Nat} {y : Ins} {o : Oper} (hn : Nxt ops listed j) (hy : ins[j]? = some y) (hj : j < m)
    (hd : matDst nt o.dst y.dst = true) {β' : Beta} {M' : Mem} {H' : Heap} {w' : World} {v : Value} (hs : Step H0 β0 M0 w0 H' β' M' w') (hb : β.le β') (hm : M.le M') (hi : Inv β' M' H' w') (hv : VV M' β' (ds j) v)
    (h2 : y.op.cls = 2 → H' = Hs (j + 1)) (h02 : y.op.cls ≠ 2 → H' = H) (hl : H.length ≤ H'.length)
    (hu : ∀ i x, ins[i]? = some x → x.op.cls = 3 → ¬ Ld listed i → i ≠ j → β' (H0.length + nal ins i) = none) :
    DI ops ins nt m E0 Hs ds β0 M0 H0 w0 df (listed.setIfInBounds j true) (a.put o.dst v) w' β' M' H' := by
  have hjs : j < listed.size := by rw [W.lsz]; exact hn.lt
  obtain ⟨hdd, hdn⟩ := put_put_ok hd
  refine ⟨by simp [W.lsz], hi, hs, ?_, ?_, ?_, by rw [put_tmps]; exact W.tsz, by rw [put_defers]; exact W.dfr.mono hm hb, ?_, ?_, ?_, Nat.le_trans W.hlen hl⟩
  · intro i h k hk
    rw [Ld_set hjs] at h ⊢
    rcases h with rfl | h
    · exact .inr (hn.up k hk)
    · exact .inr (W.closed i h k hk)
  · by_cases hc : y.op.cls = 2
    · refine ⟨j + 1, hj, h2 hc, ?_⟩
      intro i x h1 h3 h4
      rw [Ld_set hjs]
      by_cases e : i = j
      · subst e; simp
      · rw [F.done W.closed hn e h3 hy (F.near_two h3 hy h4 (by omega) (by omega) (cls2_noload hc))]
        omega
    · obtain ⟨k, hk, hH, hs'⟩ := W.stage
      refine ⟨k, hk, (h02 hc).trans hH, ?_⟩
      intro i x h1 h3 h4
      have e : i ≠ j := by rintro rfl; rw [hy] at h3; cases h3; exact hc h4
      rw [Ld_set hjs, ← hs' i x h1 h3 h4]
      simp [e]
  · intro i x h hx
    rw [Ld_set hjs] at h
    rcases h with rfl | h
    · exact .inl hj
    · exact W.below i x h hx
  · intro t i x hx hdx hL hlt
    rw [Ld_set hjs] at hL
    by_cases e : i = j
    · subst e
      rw [hy] at hx
      cases hx
      rw [hdd, hdx, put_getD_same a t v (Nat.lt_of_lt_of_le (hdn t hdx) W.tsz)]
      exact hv
    · have hL := hL.resolve_left e
      rw [put_getD_other a o.dst v (fun h => e (F.uniq hx hy hdx (by rw [← hdd, h])))]
      exact (W.tm1 t i x hx hdx hL hlt).mono hm hb
  · intro t d hno hlk
    have h1 : o.dst ≠ some t := fun h => hno j y hy (by rw [← hdd, h]) ((Ld_set hjs).2 (.inl rfl))
    rw [put_getD_other a o.dst v h1]
    exact (W.tm2 t d (fun i x hx hdx hL => hno i x hx hdx ((Ld_set hjs).2 (.inr hL))) hlk).mono hm hb
  · intro i x hx hc hL
    rw [Ld_set hjs] at hL
    exact hu i x hx hc (fun h => hL (.inr h)) (fun h => hL (.inl h))

/-- A move that nobody waits for, behind the place of a panic. -/
theorem DI.mov (F : Fx P cx nt ops ins pk fp m Es Hs ds H0) (W : DI ops ins nt m E0 Hs ds β0 M0 H0 w0 df listed a w β M H) {j : Nat} {y : Ins} {o : Oper} (hn : Nxt ops listed j) (hy : ins[j]? = some y) (hj : m < j) (hmv : y.op.isMov = true)
    (hd : matDst nt o.dst y.dst = true) (v : Value) :
    DI ops ins nt m E0 Hs ds β0 M0 H0 w0 df (listed.setIfInBounds j true) (a.put o.dst v) w β M H := by
  have hjs : j < listed.size := by rw [W.lsz]; exact hn.lt
  obtain ⟨hdd, hdn⟩ := put_put_ok hd
  have hc3 : y.op.cls ≠ 3 ∧ y.op.cls ≠ 2 := by
    obtain ⟨dst, g, op⟩ := y
    cases op <;> first | (simp [IOp.cls]; done) | (simp [IOp.isMov] at hmv)
  refine ⟨by simp [W.lsz], W.inv, W.stp, ?_, ?_, ?_, by rw [put_tmps]; exact W.tsz, by rw [put_defers]; exact W.dfr, ?_, ?_, ?_, W.hlen⟩
  · intro i h k hk
    rw [Ld_set hjs] at h ⊢
    rcases h with rfl | h
    · exact .inr (hn.up k hk)
    · exact .inr (W.closed i h k hk)
  · obtain ⟨k, hk, hH, hs'⟩ := W.stage
    refine ⟨k, hk, hH, ?_⟩
    intro i x h1 h3 h4
    rw [Ld_set hjs, ← hs' i x h1 h3 h4]
    have e : i ≠ j := by omega
    simp [e]
  · intro i x h hx
    rw [Ld_set hjs] at h
    rcases h with rfl | h
    · rw [hy] at hx; cases hx; exact .inr ⟨hj, hmv⟩
    · exact W.below i x h hx
  · intro t i x hx hdx hL hlt
    rw [Ld_set hjs] at hL
    have e : i ≠ j := by omega
    have hL := hL.resolve_left e
    rw [put_getD_other a o.dst v (fun h => e (F.uniq hx hy hdx (by rw [← hdd, h])))]
    exact W.tm1 t i x hx hdx hL hlt
  · intro t d hno hlk
    have h1 : o.dst ≠ some t := fun h => hno j y hy (by rw [← hdd, h]) ((Ld_set hjs).2 (.inl rfl))
    rw [put_getD_other a o.dst v h1]
    exact W.tm2 t d (fun i x hx hdx hL => hno i x hx hdx ((Ld_set hjs).2 (.inr hL))) hlk
  · intro i x hx hc hL
    rw [Ld_set hjs] at hL
    exact W.unpl i x hx hc (fun h => hL (.inr h))

end Go.Mini
