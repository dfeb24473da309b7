/- Regions whose order is open: whatever the order, the same. -/
import Derived.Test.YtacoaelokdamnaaGreatSnd2
set_option linter.all false
set_option linter.unusedSimpArgs false
set_option linter.unusedVariables false
namespace Go.Mini

def ancOf (acc : List Nat) : List Edge → Nat
  | [] => 0
  | e :: r => match Region.binds .any e with
    | true => ((1 <<< e.on) ||| acc.getD e.on 0) ||| ancOf acc r
    | false => ancOf acc r
def ancs : List Oper → List Nat → List Nat
  | [], acc => acc
  | o :: os, acc => ancs os (acc ++ [ancOf acc o.after.toList])

def edgesLow : Nat → List Oper → Bool
  | _, [] => true
  | j, o :: os => o.after.toList.all (fun e => !Region.binds .any e || Nat.ble (e.on + 1) j) && edgesLow (j + 1) os

def Ins.reads (i : Ins) : List Nat := (match i.g with | some (t, _) => [t] | none => []) ++ i.op.tmps

def notIn (d : Option Nat) (l : List Nat) : Bool :=
  match d with
  | none => true
  | some t => l.all fun u => !Nat.beq t u
def noSame : Option Nat → Option Nat → Bool
  | some t, some u => !Nat.beq t u
  | _, _ => true
def conflict (a b : Nat) : Bool := (Nat.beq a 2 && !Nat.beq b 0 && !Nat.beq b 3) || (Nat.beq b 2 && !Nat.beq a 0 && !Nat.beq a 3)
def inFp (fp : List (Nat × Nat)) (i j : Nat) : Bool := fp.any fun p => Nat.beq p.1 i && Nat.beq p.2 j
def pairOk (A : List Nat) (pk : List Nat) (fp : List (Nat × Nat)) (i j : Nat) (x y : Ins) : Bool :=
  noSame x.dst y.dst &&
  ((A.getD j 0).testBit i || (notIn x.dst y.reads && notIn y.dst x.reads && (!conflict x.op.cls y.op.cls || inFp fp i j || inFp fp j i) && !(Nat.beq x.op.cls 3 && Nat.beq y.op.cls 2) && (!pk.contains i || y.op.isMov) && (!pk.contains j || x.op.isMov)))
def rowOk (A : List Nat) (pk : List Nat) (fp : List (Nat × Nat)) (i : Nat) (x : Ins) : Nat → List Ins → Bool
  | _, [] => true
  | j, y :: r => pairOk A pk fp i j x y && rowOk A pk fp i x (j + 1) r
def pairsOk (A : List Nat) (pk : List Nat) (fp : List (Nat × Nat)) : Nat → List Ins → Bool
  | _, [] => true
  | i, x :: r => rowOk A pk fp i x (i + 1) r && pairsOk A pk fp (i + 1) r
def allocsOk (ins : List Ins) : Bool := ins.all fun i => !Nat.beq i.op.cls 3 || i.g.isNone
/-- A floating load, and a write that it floats beside: what they read is not written from there on. -/
def fpStat (ins : List Ins) (i j : Nat) : Bool :=
  match ins[i]?, ins[j]? with
  | some x, some y => (match x.op with | .load _ _ _ => true | _ => false) && Nat.beq y.op.cls 2 &&
    x.reads.all (fun t => (ins.drop i).all fun z => z.dst != some t) && y.reads.all (fun t => (ins.drop j).all fun z => z.dst != some t)
  | _, _ => false
def drwOk (P : Program) (nt : Nat) (ops : List Oper) (ins : List Ins) (pk : List Nat) (fp : List (Nat × Nat)) : Bool :=
  matAll P nt ops ops ins && edgesLow 0 ops && allocsOk ins && pairsOk (ancs ops []) pk fp 0 ins && fp.all (fun p => fpStat ins p.1 p.2)

theorem rowOk_spec {A pk : List Nat} {fp : List (Nat × Nat)} {i : Nat} {x : Ins} : ∀ {l : List Ins} {b : Nat}, rowOk A pk fp i x b l = true → ∀ j y, l[j]? = some y → pairOk A pk fp i (b + j) x y = true
  | [], _, _, j, y, h => by simp at h
  | z :: l, b, h, j, y, hy => by
    simp only [rowOk, Bool.and_eq_true] at h
    cases j with
    | zero => simp at hy; subst hy; simpa using h.1
    | succ j =>
      have := rowOk_spec h.2 j y (by simpa using hy)
      rwa [Nat.add_assoc, Nat.add_comm 1 j] at this
theorem pairsOk_spec {A pk : List Nat} {fp : List (Nat × Nat)} : ∀ {l : List Ins} {b : Nat}, pairsOk A pk fp b l = true → ∀ i j x y, i < j → l[i]? = some x → l[j]? = some y → pairOk A pk fp (b + i) (b + j) x y = true
  | [], _, _, i, j, x, y, _, h, _ => by simp at h
  | z :: l, b, h, i, j, x, y, hij, hx, hy => by
    simp only [pairsOk, Bool.and_eq_true] at h
    cases j with
    | zero => omega
    | succ j =>
      cases i with
      | zero =>
        simp at hx; subst hx
        have := rowOk_spec h.1 j y (by simpa using hy)
        rwa [Nat.add_assoc, Nat.add_comm 1 j] at this
      | succ i =>
        have := pairsOk_spec h.2 i j x y (by omega) (by simpa using hx) (by simpa using hy)
        rw [show b + (i + 1) = b + 1 + i by omega, show b + (j + 1) = b + 1 + j by omega]
        exact this

theorem ancOf_spec {acc : List Nat} : ∀ {es : List Edge} {k : Nat}, (ancOf acc es).testBit k = true → ∃ e ∈ es, Region.binds .any e = true ∧ (e.on = k ∨ (acc.getD e.on 0).testBit k = true)
  | [], k, h => by simp [ancOf] at h
  | e :: es, k, h => by
    simp only [ancOf] at h
    split at h
    · rename_i hb
      simp only [Nat.testBit_or, Bool.or_eq_true, Nat.testBit_shiftLeft, Nat.testBit_one_eq_true_iff_self_eq_zero, Bool.and_eq_true, decide_eq_true_eq] at h
      rcases h with (h | h) | h
      · exact ⟨e, List.mem_cons_self .., hb, .inl (by omega)⟩
      · exact ⟨e, List.mem_cons_self .., hb, .inr h⟩
      · obtain ⟨e', h1, h2⟩ := ancOf_spec h
        exact ⟨e', List.mem_cons_of_mem _ h1, h2⟩
    · obtain ⟨e', h1, h2⟩ := ancOf_spec h
      exact ⟨e', List.mem_cons_of_mem _ h1, h2⟩

theorem ancs_pre : ∀ (l : List Oper) (acc : List Nat), ∃ r, ancs l acc = acc ++ r
  | [], acc => ⟨[], by simp [ancs]⟩
  | o :: l, acc => by
    obtain ⟨r, hr⟩ := ancs_pre l (acc ++ [ancOf acc o.after.toList])
    exact ⟨ancOf acc o.after.toList :: r, by simp [ancs, hr]⟩

theorem ancs_spec : ∀ (l : List Oper) (acc : List Nat) (j : Nat) (o : Oper), l[j]? = some o → ∀ k, ((ancs l acc).getD (acc.length + j) 0).testBit k = true →
    ∃ e ∈ o.after.toList, Region.binds .any e = true ∧ (e.on = k ∨ ((ancs l acc).getD e.on 0).testBit k = true)
  | [], acc, j, o, h, k, _ => by simp at h
  | x :: l, acc, j, o, h, k, hk => by
    simp only [ancs] at hk ⊢
    cases j with
    | zero =>
      simp at h; subst h
      obtain ⟨r, hr⟩ := ancs_pre l (acc ++ [ancOf acc x.after.toList])
      rw [hr] at hk ⊢
      simp only [Nat.add_zero, List.append_assoc] at hk
      have h1 : (acc ++ ([ancOf acc x.after.toList] ++ r)).getD acc.length 0 = ancOf acc x.after.toList := by simp [List.getD_eq_getElem?_getD]
      rw [h1] at hk
      obtain ⟨e, he, hb, hor⟩ := ancOf_spec hk
      refine ⟨e, he, hb, hor.imp id fun h => ?_⟩
      by_cases hlt : e.on < acc.length
      · simp only [List.getD_eq_getElem?_getD, List.append_assoc, List.getElem?_append_left hlt] at h ⊢
        exact h
      · simp [List.getD_eq_getElem?_getD, List.getElem?_eq_none (Nat.le_of_not_lt hlt)] at h
    | succ j =>
      have := ancs_spec l (acc ++ [ancOf acc x.after.toList]) j o (by simpa using h) k (by
        simp only [List.length_append, List.length_singleton]
        rwa [show acc.length + 1 + j = acc.length + (j + 1) by omega])
      exact this

theorem edgesLow_spec : ∀ {l : List Oper} {b : Nat}, edgesLow b l = true → ∀ j o, l[j]? = some o → ∀ e ∈ o.after.toList, Region.binds .any e = true → e.on < b + j
  | [], _, _, j, o, h => by simp at h
  | x :: l, b, h, j, o, ho => by
    simp only [edgesLow, Bool.and_eq_true, List.all_eq_true, Bool.or_eq_true, Bool.not_eq_true'] at h
    cases j with
    | zero =>
      simp at ho; subst ho
      intro e he hb
      rcases h.1 e he with h1 | h1
      · rw [h1] at hb; cases hb
      · exact Nat.le_of_ble_eq_true h1
    | succ j =>
      intro e he hb
      have := edgesLow_spec h.2 j o (by simpa using ho) e he hb
      omega

theorem notIn_spec {t : Nat} {l : List Nat} (h : notIn (some t) l = true) : t ∉ l := by
  intro hm
  simp only [notIn, List.all_eq_true, Bool.not_eq_true'] at h
  have := h t hm
  have h2 : Nat.beq t t = true := by simp
  rw [h2] at this
  cases this

/-! ### The run in the order of the text -/
def StepD (cx : Cx) (i : Ins) (b : Nat) (E : Env) (H : Heap) (d : D) (H' : Heap) : Prop :=
  (i.op.cls = 3 ∧ d = .ptr b 0 ∧ H' = H) ∨ (i.op.cls ≠ 3 ∧ wants i.g E = some false ∧ d = .tup [] ∧ H' = H) ∨ (i.op.cls ≠ 3 ∧ wants i.g E = some true ∧ iev cx i.op E H = .ok (d, H'))

def nal (ins : List Ins) (j : Nat) : Nat := (allocsOf (ins.take j)).length

structure Tr (cx : Cx) (ins : List Ins) (m base : Nat) (Es : Nat → Env) (Hs : Nat → Heap) (ds : Nat → D) : Prop where
  step : ∀ j i, j < m → ins[j]? = some i → StepD cx i (base + nal ins j) (Es j) (Hs j) (ds j) (Hs (j + 1))
  env : ∀ j i, j < m → ins[j]? = some i → Es (j + 1) = putD i.dst (ds j) (Es j)
  zer : ∀ p j i zs, p < j → p < m → ins[j]? = some i → i.op = .alloc zs → Hs p ≠ Hs (p + 1) → (Hs (p + 1))[base + nal ins j]? = some (.cells true false zs)

def RunsTo (cx : Cx) (pk : List Nat) (E0 : Env) (ins : List Ins) (j0 m : Nat) (Es : Nat → Env) (Hs : Nat → Heap) : Ri → Prop
  | .ok E' H' => m = ins.length ∧ Es m = E' ∧ Hs m = H'
  | .pan d E' H' => E' = E0 ∧ ∃ i, ins[m]? = some i ∧ i.op.cls ≠ 3 ∧ wants i.g (Es m) = some true ∧ iev cx i.op (Es m) (Hs m) = .pan d H' ∧ pk.contains (j0 + m) = true
  | .no => True

def pre {α : Type} (x : α) (f : Nat → α) : Nat → α
  | 0 => x
  | n + 1 => f n

theorem cls3 {op : IOp} : op.cls = 3 ↔ ∃ zs, op = .alloc zs := by
  constructor
  · intro h
    cases op <;> simp only [IOp.cls] at h
    case alloc zs => exact ⟨zs, rfl⟩
    case bsl asLit _ _ _ _ _ => cases asLit <;> simp at h
    case msl asLit _ _ _ _ _ _ => cases asLit <;> simp at h
    case call live _ _ _ => cases live <;> simp at h
    case clv live _ _ => cases live <;> simp at h
    all_goals simp at h
  · rintro ⟨zs, rfl⟩; rfl

theorem runDrw_cons {cx : Cx} {pk : List Nat} {E0 : Env} {i : Ins} {r : List Ins} {j na : Nat} {E : Env} {H : Heap} (h3 : i.op.cls ≠ 3) :
    runDrw cx pk E0 (i :: r) j na E H = match wants i.g E with
      | none => .no
      | some false => runDrw cx pk E0 r (j + 1) na (putD i.dst (.tup []) E) H
      | some true => match iev cx i.op E H with
        | .ok (d, H') => match zerosAt H' na (allocsOf r) with
          | true => runDrw cx pk E0 r (j + 1) na (putD i.dst d E) H'
          | false => .no
        | .pan d H' => match pk.contains j with
          | true => .pan d E0 H'
          | false => .no
        | .no => .no := by
  obtain ⟨dst, g, op⟩ := i
  cases op <;> first | rfl | exact absurd rfl h3

theorem nal_cons (i : Ins) (r : List Ins) (j : Nat) : nal (i :: r) (j + 1) = (if i.op.cls = 3 then 1 else 0) + nal r j := by
  unfold nal
  simp only [List.take_succ_cons]
  by_cases h : i.op.cls = 3
  · obtain ⟨zs, hz⟩ := cls3.1 h
    simp only [allocsOf, hz, List.length_cons, h, if_true]
    simp [IOp.cls]
    omega
  · have : allocsOf (i :: r.take j) = allocsOf (r.take j) := by
      obtain ⟨dst, g, op⟩ := i
      cases op <;> first | rfl | exact absurd rfl h
    rw [this]
    simp [h]

theorem atomSame_eq {v u : Value} (h : sameK.atomSame v u = true) : v = u := by
  unfold sameK.atomSame at h
  split at h <;> simp_all

theorem sameK_eq {xs ys : List D} (h : sameK xs ys = true) : xs = ys := by
  fun_induction sameK xs ys with
  | case1 => rfl
  | case2 a r b q ih =>
    simp only [Bool.and_eq_true] at h
    rw [atomSame_eq h.1, ih h.2]
  | case3 r q ih => rw [ih h]
  | case4 => cases h

theorem zerosAt_get : ∀ {ins : List Ins} {H : Heap} {na j : Nat} {x : Ins} {zs : List D}, zerosAt H na (allocsOf ins) = true → ins[j]? = some x → x.op = .alloc zs → H[na + nal ins j]? = some (.cells true false zs)
  | [], H, na, j, x, zs, _, h, _ => by simp at h
  | i :: r, H, na, j, x, zs, hz, h, hop => by
    by_cases h3 : i.op.cls = 3
    · obtain ⟨zs', hz'⟩ := cls3.1 h3
      simp only [allocsOf, hz', zerosAt, Bool.and_eq_true] at hz
      obtain ⟨q1, q2⟩ := hz
      cases j with
      | zero =>
        simp at h; subst h
        rw [hz'] at hop
        cases hop
        simp only [nal, List.take_zero, allocsOf, List.length_nil, Nat.add_zero]
        split at q1
        · rename_i ys hys
          rw [hys, sameK_eq q1]
        · cases q1
      | succ j =>
        rw [nal_cons, if_pos h3, ← Nat.add_assoc]
        exact zerosAt_get q2 (by simpa using h) hop
    · have hr : allocsOf (i :: r) = allocsOf r := by
        obtain ⟨dst, g, op⟩ := i
        cases op <;> first | rfl | exact absurd rfl h3
      rw [hr] at hz
      cases j with
      | zero =>
        simp at h; subst h
        exact absurd (cls3.2 ⟨zs, hop⟩) h3
      | succ j =>
        rw [nal_cons, if_neg h3, Nat.zero_add]
        exact zerosAt_get hz (by simpa using h) hop

theorem runDrw_tr {cx : Cx} {pk : List Nat} {E0 : Env} : ∀ (ins : List Ins) (j0 na : Nat) (E : Env) (H : Heap), runDrw cx pk E0 ins j0 na E H ≠ .no →
    ∃ m Es Hs ds, Es 0 = E ∧ Hs 0 = H ∧ Tr cx ins m na Es Hs ds ∧ m ≤ ins.length ∧ RunsTo cx pk E0 ins j0 m Es Hs (runDrw cx pk E0 ins j0 na E H)
  | [], j0, na, E, H, _ => ⟨0, fun _ => E, fun _ => H, fun _ => .tup [], rfl, rfl, ⟨fun _ _ h => by omega, fun _ _ h => by omega, fun _ _ _ _ _ h => by omega⟩, by simp, by simp [runDrw, RunsTo]⟩
  | i :: r, j0, na, E, H, h => by
    have go : ∀ (d : D) (H' : Heap) (na' : Nat), (H ≠ H' → zerosAt H' na' (allocsOf r) = true) → StepD cx i na E H d H' → na' = na + (if i.op.cls = 3 then 1 else 0) → runDrw cx pk E0 (i :: r) j0 na E H = runDrw cx pk E0 r (j0 + 1) na' (putD i.dst d E) H' →
        ∃ m Es Hs ds, Es 0 = E ∧ Hs 0 = H ∧ Tr cx (i :: r) m na Es Hs ds ∧ m ≤ (i :: r).length ∧ RunsTo cx pk E0 (i :: r) j0 m Es Hs (runDrw cx pk E0 (i :: r) j0 na E H) := by
      intro d H' na' hzz hs hna heq
      rw [heq] at h
      obtain ⟨m, Es, Hs, ds, h1, h2, h3, h4, h5⟩ := runDrw_tr r (j0 + 1) na' (putD i.dst d E) H' h
      refine ⟨m + 1, pre E Es, pre H Hs, pre d ds, rfl, rfl, ⟨?_, ?_, ?_⟩, by simpa using h4, ?_⟩
      · intro j x hj hx
        cases j with
        | zero =>
          simp at hx; subst hx
          simp only [pre, nal, List.take_zero, allocsOf, List.length_nil, Nat.add_zero]
          rw [h2]; exact hs
        | succ j =>
          have := h3.step j x (by omega) (by simpa using hx)
          simp only [pre]
          rw [nal_cons, ← Nat.add_assoc, ← hna]
          exact this
      · intro j x hj hx
        cases j with
        | zero =>
          simp at hx; subst hx
          simp only [pre]
          exact h1
        | succ j => exact h3.env j x (by omega) (by simpa using hx)
      · intro p j x zs hpj hpm hx hz hne
        cases j with
        | zero => omega
        | succ j =>
          rw [nal_cons, ← Nat.add_assoc, ← hna]
          cases p with
          | zero =>
            simp only [pre] at hne ⊢
            rw [h2] at hne ⊢
            exact zerosAt_get (hzz hne) (by simpa using hx) hz
          | succ p => exact h3.zer p j x zs (by omega) (by omega) (by simpa using hx) hz hne
      · rw [heq]
        cases hr : runDrw cx pk E0 r (j0 + 1) na' (putD i.dst d E) H' with
        | ok E' H'' => rw [hr] at h5; simp only [RunsTo] at h5 ⊢; exact ⟨by simp [h5.1], h5.2⟩
        | pan d' E' H'' =>
          rw [hr] at h5; simp only [RunsTo] at h5 ⊢
          obtain ⟨q1, x, q2, q3, q4, q5, q6⟩ := h5
          exact ⟨q1, x, by simpa using q2, q3, q4, q5, by rw [show j0 + (m + 1) = j0 + 1 + m by omega]; exact q6⟩
        | no => trivial
    by_cases h3 : i.op.cls = 3
    · obtain ⟨zs, hz⟩ := cls3.1 h3
      refine go (.ptr na 0) H (na + 1) (fun h => absurd rfl h) (.inl ⟨h3, rfl, rfl⟩) (by simp [h3]) ?_
      obtain ⟨dst, g, op⟩ := i
      simp only at hz
      subst hz
      rfl
    · have hc := runDrw_cons (cx := cx) (pk := pk) (E0 := E0) (r := r) (j := j0) (na := na) (E := E) (H := H) h3
      cases hw : wants i.g E with
      | none => rw [hw] at hc; simp only at hc; exact absurd hc h
      | some b =>
        rw [hw] at hc
        cases b with
        | false =>
          simp only at hc
          exact go (.tup []) H na (fun h => absurd rfl h) (.inr (.inl ⟨h3, hw, rfl, rfl⟩)) (by simp [h3]) hc
        | true =>
          simp only at hc
          cases he : iev cx i.op E H with
          | ok p =>
            obtain ⟨d, H'⟩ := p
            rw [he] at hc
            simp only at hc
            split at hc
            case h_2 => exact absurd hc h
            rename_i hzr
            exact go d H' na (fun _ => hzr) (.inr (.inr ⟨h3, hw, he⟩)) (by simp [h3]) hc
          | pan d H' =>
            rw [he] at hc
            simp only at hc
            split at hc
            · rename_i hp
              refine ⟨0, fun _ => E, fun _ => H, fun _ => .tup [], rfl, rfl, ⟨fun _ _ h => by omega, fun _ _ h => by omega, fun _ _ _ _ _ h => by omega⟩, by simp, ?_⟩
              rw [hc]
              exact ⟨rfl, i, by simp, h3, hw, he, by simpa using hp⟩
            · exact absurd hc h
          | no => rw [he] at hc; simp only at hc; exact absurd hc h

end Go.Mini
