/- The operations, part 9: structs compared; floats' bits. -/
import Derived.Test.YtacoaelokdamnaaGreatOps8
import Derived.ChangeKeysEq
set_option linter.all false
set_option linter.unusedSimpArgs false
set_option linter.unusedVariables false
namespace Go.Mini

section
variable {P : Program} {cx : Cx} {β : Beta} {M : Mem} {H : Heap} {w : World} {a : Act} {E : Env} {o : Oper}

/-- A type's value out of its cells. -/
def asV (d : TypeDesc) (l : List Value) : Value := if aggD d then .agg l.toArray else l.headD undef

theorem cellsEq_append : ∀ {ks ks' : List CK} {xs ys xs' ys' : List D} {r : Bool}, xs.length = ks.length → ys.length = ks.length → cellsEq (ks ++ ks') (xs ++ xs') (ys ++ ys') = some r → ∃ a b, cellsEq ks xs ys = some a ∧ cellsEq ks' xs' ys' = some b ∧ r = (a && b)
  | [], ks', [], [], _, _, r, _, _, h => ⟨true, r, rfl, h, by simp⟩
  | k :: ks, ks', x :: xs, y :: ys, xs', ys', r, hl, hl', h => by
    simp only [List.cons_append, cellsEq] at h ⊢
    split at h
    · rename_i p q h1 h2
      cases h
      obtain ⟨a, b, h3, h4, rfl⟩ := cellsEq_append (by simpa using hl) (by simpa using hl') h2
      exact ⟨p && a, b, by simp [h1, h3], h4, by rw [Bool.and_assoc]⟩
    · cases h
  | [], _, _ :: _, _, _, _, _, hl, _, _ => by simp at hl
  | [], _, [], _ :: _, _, _, _, _, hl, _ => by simp at hl
  | _ :: _, _, [], _, _, _, _, hl, _, _ => by simp at hl
  | _ :: _, _, _ :: _, [], _, _, _, _, hl, _ => by simp at hl

theorem cellEq_VF {c : CK} {x y : D} {r : Bool} {u v : Value} (h : cellEq c x y = some r) (hx : VF M x β [u]) (hy : VF M y β [v]) :
    (c = .i ∧ ∃ k p q, u = .int k p ∧ v = .int k q ∧ r = (p == q)) ∨ (c = .b ∧ ∃ p q, u = .bool p ∧ v = .bool q ∧ r = (p == q)) ∨ (c = .s ∧ ∃ p q, u = .string p ∧ v = .string q ∧ r = (p.toList == q.toList)) := by
  unfold cellEq at h
  split at h
  · rename_i k p k' q
    split at h
    · rename_i hk
      have hk : k = k' := by simpa using hk
      subst hk
      cases h
      simp only [VF, List.cons.injEq, and_true] at hx hy
      exact .inl ⟨rfl, k, p, q, hx.1, hy.1, rfl⟩
    · cases h
  · cases h
    simp only [VF, List.cons.injEq, and_true] at hx hy
    exact .inr (.inl ⟨rfl, _, _, hx.1, hy.1, rfl⟩)
  · cases h
    simp only [VF, List.cons.injEq, and_true] at hx hy
    exact .inr (.inr ⟨rfl, _, _, hx.1, hy.1, rfl⟩)
  · cases h

theorem run_partV {t : TypeId} {td : TypeDesc} {n b off : Nat} {ag : Bool} {cs : Array Value} (ht : tsz P t = some (n, b, ag)) (hu : P.underlying t = some td) (h1 : aggD td = false → n = 1) (hl : off + n ≤ cs.size) (w : World) :
    (part t cs off).run P w = .ok (asV td ((cs.toList.drop off).take n)) w := by
  obtain ⟨i, d, q1, q2, q3, q4, q5⟩ := tsz_spec ht
  rw [hu] at q2
  cases q2
  unfold asV
  by_cases hag : aggD td = true
  · subst q5
    rw [hag] at ht ⊢
    simp only [part, Sem.run_bind, run_isAgg' ht, Result.andThen_ok, if_true, run_sizeOf' ht, Sem.run_pure]
    congr 2
    apply Array.ext'
    simp [List.extract_eq_take_drop]
  · have hag : aggD td = false := by simpa using hag
    subst q5
    obtain rfl := h1 hag
    rw [hag] at ht
    have hlt : off < cs.size := by omega
    have hx : cs[off]? = some cs[off] := by simp [hlt]
    simp only [part, Sem.run_bind, run_isAgg' ht, Result.andThen_ok, hag, Bool.false_eq_true, if_false, hx, Sem.run_pure]
    congr 1
    have : (cs.toList.drop off).take 1 = [cs[off]] := by
      rw [List.drop_eq_getElem_cons (by simpa using hlt)]
      simp
    rw [this]
    rfl

/-- What is asked of a type whose '==' goes cell by cell. -/
def EqOK1 (P : Program) (m : Nat) (t : TypeId) (ks : List CK) : Prop := ∃ td, P.underlying t = some td ∧ (aggD td = false → ks.length = 1) ∧
  ∀ (M : Mem) (β : Beta) (lx ly : List Value) (xs ys : List D) (r : Bool) (w : World) (d : Nat), lx.length = ks.length → ly.length = ks.length → xs.length = ks.length → ys.length = ks.length → VE M xs β 1 lx → VE M ys β 1 ly → cellsEq ks xs ys = some r →
    (Op.equalIn (d + m) t (asV td lx) (asV td ly)).run P w = .ok r w

theorem one_cells {k : CK} {xs ys : List D} {lx ly : List Value} {r : Bool} (h1 : lx.length = 1) (h2 : ly.length = 1) (h3 : xs.length = 1) (h4 : ys.length = 1) (hx : VE M xs β 1 lx) (hy : VE M ys β 1 ly) (h : cellsEq [k] xs ys = some r) :
    ∃ x y u v, lx = [u] ∧ ly = [v] ∧ VF M x β [u] ∧ VF M y β [v] ∧ cellEq k x y = some r := by
  obtain ⟨x, rfl⟩ := List.length_eq_one_iff.1 h3
  obtain ⟨y, rfl⟩ := List.length_eq_one_iff.1 h4
  obtain ⟨u, rfl⟩ := List.length_eq_one_iff.1 h1
  obtain ⟨v, rfl⟩ := List.length_eq_one_iff.1 h2
  obtain ⟨_, _, e1, _, g1, _⟩ := VE_one_cons.1 hx
  obtain ⟨_, _, e2, _, g2, _⟩ := VE_one_cons.1 hy
  cases e1
  cases e2
  refine ⟨x, y, u, v, rfl, rfl, g1, g2, ?_⟩
  simp only [cellsEq] at h
  split at h
  · rename_i a b h5 h6
    cases h6
    cases h
    simpa using h5
  · cases h

/-- One part of each compared. -/
theorem run_part_eq {m : Nat} {e : TypeId} {k : List CK} {b off : Nat} {ag : Bool} {cx cy : Array Value} {xs ys : List D} {r : Bool} (hok : EqOK1 P m e k) (ht : tsz P e = some (k.length, b, ag)) (hx : off + k.length ≤ cx.size) (hy : off + k.length ≤ cy.size)
    (vx : VE M xs β 1 (cx.toList.drop off)) (vy : VE M ys β 1 (cy.toList.drop off)) (hlx : k.length ≤ xs.length) (hly : k.length ≤ ys.length) (hc : cellsEq k (xs.take k.length) (ys.take k.length) = some r) (w : World) (d : Nat) :
    ∃ u v, (part e cx off).run P w = .ok u w ∧ (part e cy off).run P w = .ok v w ∧ (Op.equalIn (d + m) e u v).run P w = .ok r w := by
  obtain ⟨td, h1, h2, h3⟩ := hok
  have hcx : cx.toList.length = cx.size := Array.length_toList
  have hcy : cy.toList.length = cy.size := Array.length_toList
  exact ⟨_, _, run_partV ht h1 h2 hx w, run_partV ht h1 h2 hy w, h3 M β _ _ (xs.take k.length) (ys.take k.length) r w d (by rw [List.length_take, List.length_drop, hcx]; omega) (by rw [List.length_take, List.length_drop, hcy]; omega)
    (by rw [List.length_take]; omega) (by rw [List.length_take]; omega) (VE_prefix (by rw [List.length_take]; omega) (VE_take _ vx)) (VE_prefix (by rw [List.length_take]; omega) (VE_take _ vy)) hc⟩

theorem run_items {m : Nat} {e : TypeId} {k : List CK} {b : Nat} {ag : Bool} {cx cy : Array Value} (hok : EqOK1 P m e k) (ht : tsz P e = some (k.length, b, ag)) : ∀ (n i : Nat) (xs ys : List D) (r : Bool), (i + n) * k.length ≤ cx.size → (i + n) * k.length ≤ cy.size →
    xs.length = n * k.length → ys.length = n * k.length → VE M xs β 1 (cx.toList.drop (i * k.length)) → VE M ys β 1 (cy.toList.drop (i * k.length)) → cellsEq (List.replicate n k).flatten xs ys = some r → ∀ (w : World) (d : Nat),
    (Op.eqItems (d + m) e k.length cx cy (List.range' i n)).run P w = .ok r w
  | 0, i, xs, ys, r, _, _, hlx, hly, _, _, hc, w, d => by
    have hx0 : xs = [] := List.eq_nil_of_length_eq_zero (by simpa using hlx)
    have hy0 : ys = [] := List.eq_nil_of_length_eq_zero (by simpa using hly)
    subst hx0 hy0
    simp only [List.replicate_zero, List.flatten_nil, cellsEq, Option.some.injEq] at hc
    subst hc
    simp [Op.eqItems]
  | n + 1, i, xs, ys, r, hsx, hsy, hlx, hly, vx, vy, hc, w, d => by
    rw [Nat.succ_mul] at hlx hly
    have e1 : (i + (n + 1)) * k.length = i * k.length + n * k.length + k.length := by rw [← Nat.add_assoc, Nat.succ_mul, Nat.add_mul]
    rw [e1] at hsx hsy
    rw [List.replicate_succ, List.flatten_cons] at hc
    have hc' : cellsEq (k ++ (List.replicate n k).flatten) (xs.take k.length ++ xs.drop k.length) (ys.take k.length ++ ys.drop k.length) = some r := by rw [List.take_append_drop, List.take_append_drop]; exact hc
    obtain ⟨p, q, h1, h2, rfl⟩ := cellsEq_append (by rw [List.length_take]; omega) (by rw [List.length_take]; omega) hc'
    obtain ⟨u, v, g1, g2, g3⟩ := run_part_eq (m := m) hok ht (by omega) (by omega) vx vy (by omega) (by omega) h1 w d
    have vx' := VE_drop k.length vx (by omega)
    have vy' := VE_drop k.length vy (by omega)
    rw [Nat.mul_one, List.drop_drop] at vx' vy'
    have hi1 : i * k.length + k.length = (i + 1) * k.length := by rw [Nat.succ_mul]
    rw [hi1] at vx' vy'
    have ih := run_items (m := m) hok ht n (i + 1) (xs.drop k.length) (ys.drop k.length) q (by rw [show i + 1 + n = i + (n + 1) by omega, e1]; exact hsx) (by rw [show i + 1 + n = i + (n + 1) by omega, e1]; exact hsy) (by rw [List.length_drop]; omega) (by rw [List.length_drop]; omega) vx' vy' h2 w d
    simp only [List.range'_succ, Op.eqItems, Sem.run_bind, g1, g2, g3, Result.andThen_ok]
    cases p
    · simp
    · simpa using ih

theorem run_fields {m : Nat} {rec : TypeId → Option (List CK)} {cx cy : Array Value} (hok : ∀ t k, rec t = some k → EqOK1 P m t k) : ∀ (fs : List Field) (off : Nat) (ks : List CK) (xs ys : List D) (r : Bool), eqT.eqFs P rec fs off = some ks →
    off + ks.length ≤ cx.size → off + ks.length ≤ cy.size → xs.length = ks.length → ys.length = ks.length → VE M xs β 1 (cx.toList.drop off) → VE M ys β 1 (cy.toList.drop off) → cellsEq ks xs ys = some r → ∀ (w : World) (d : Nat),
    (Op.eqFields (d + m) cx cy fs).run P w = .ok r w
  | [], off, ks, xs, ys, r, h, _, _, hlx, hly, _, _, hc, w, d => by
    simp only [eqT.eqFs, Option.some.injEq] at h
    subst h
    have hx0 : xs = [] := List.eq_nil_of_length_eq_zero (by simpa using hlx)
    have hy0 : ys = [] := List.eq_nil_of_length_eq_zero (by simpa using hly)
    subst hx0 hy0
    simp only [cellsEq, Option.some.injEq] at hc
    subst hc
    simp [Op.eqFields]
  | f :: fs, off, ks, xs, ys, r, h, hsx, hsy, hlx, hly, vx, vy, hc, w, d => by
    simp only [eqT.eqFs] at h
    split at h
    · rename_i k k' b ag h1 h2 h3 h4
      split at h
      · rename_i hk
        have hk := Nat.eq_of_beq_eq_true hk
        subst hk
        split at h
        · rename_i rs hrs
          cases h
          have hoff := Nat.eq_of_beq_eq_true h2
          rw [List.length_append] at hsx hsy hlx hly
          have hc' : cellsEq (k ++ rs) (xs.take k.length ++ xs.drop k.length) (ys.take k.length ++ ys.drop k.length) = some r := by rw [List.take_append_drop, List.take_append_drop]; exact hc
          obtain ⟨p, q, g1, g2, rfl⟩ := cellsEq_append (by rw [List.length_take]; omega) (by rw [List.length_take]; omega) hc'
          obtain ⟨u, v, g3, g4, g5⟩ := run_part_eq (m := m) (hok _ _ h3) h4 (by omega) (by omega) vx vy (by omega) (by omega) g1 w d
          have vx' := VE_drop k.length vx (by omega)
          have vy' := VE_drop k.length vy (by omega)
          rw [Nat.mul_one, List.drop_drop] at vx' vy'
          have ih := run_fields hok fs (off + k.length) rs (xs.drop k.length) (ys.drop k.length) q hrs (by omega) (by omega) (by rw [List.length_drop]; omega) (by rw [List.length_drop]; omega) vx' vy' g2 w d
          have hn : f.name ≠ "_" := by simpa using h1
          simp only [Op.eqFields, ne_eq, hn, not_false_eq_true, if_true, hoff, Sem.run_bind, g3, g4, g5, Result.andThen_ok]
          cases p
          · simp
          · simpa using ih
        · cases h
      · cases h
    · cases h

theorem eqFs_len {rec : TypeId → Option (List CK)} : ∀ (fs : List Field) (off : Nat) (ks : List CK), eqT.eqFs P rec fs off = some ks → True := fun _ _ _ _ => trivial

theorem eqOK (P : Program) : ∀ (m : Nat) (t : TypeId) (ks : List CK), eqT P m t = some ks → EqOK1 P m t ks
  | 0, t, ks, h => by simp [eqT] at h
  | m + 1, t, ks, h => by
    have IH := eqOK P m
    simp only [eqT] at h
    split at h
    · rename_i k hu
      cases h
      refine ⟨_, hu, fun _ => rfl, ?_⟩
      intro M β lx ly xs ys r w d h1 h2 h3 h4 hx hy hc
      obtain ⟨x, y, u, v, rfl, rfl, g1, g2, g3⟩ := one_cells h1 h2 h3 h4 hx hy hc
      rcases cellEq_VF g3 g1 g2 with ⟨_, k', p, q, rfl, rfl, rfl⟩ | ⟨hk, _⟩ | ⟨hk, _⟩
      · exact run_equalIn_int w (d + m) t k' k p q hu
      · cases hk
      · cases hk
    · rename_i hu
      cases h
      refine ⟨_, hu, fun _ => rfl, ?_⟩
      intro M β lx ly xs ys r w d h1 h2 h3 h4 hx hy hc
      obtain ⟨x, y, u, v, rfl, rfl, g1, g2, g3⟩ := one_cells h1 h2 h3 h4 hx hy hc
      rcases cellEq_VF g3 g1 g2 with ⟨hk, _⟩ | ⟨_, p, q, rfl, rfl, rfl⟩ | ⟨hk, _⟩
      · cases hk
      · exact run_equalIn_bool' w (d + m) t p q hu
      · cases hk
    · rename_i hu
      cases h
      refine ⟨_, hu, fun _ => rfl, ?_⟩
      intro M β lx ly xs ys r w d h1 h2 h3 h4 hx hy hc
      obtain ⟨x, y, u, v, rfl, rfl, g1, g2, g3⟩ := one_cells h1 h2 h3 h4 hx hy hc
      rcases cellEq_VF g3 g1 g2 with ⟨hk, _⟩ | ⟨hk, _⟩ | ⟨_, p, q, rfl, rfl, rfl⟩
      · cases hk
      · cases hk
      · exact run_equalIn_string w (d + m) t p q hu
    · rename_i n e hu
      split at h
      · rename_i k k' b ag h1 h2
        split at h
        · rename_i hk
          have hk := Nat.eq_of_beq_eq_true hk
          subst hk
          cases h
          obtain ⟨i, de, q1, q2, q3, _⟩ := tsz_spec h2
          refine ⟨_, hu, fun hf => by simp [aggD] at hf, ?_⟩
          intro M β lx ly xs ys r w d g1 g2 g3 g4 hx hy hc
          have hlen : (List.replicate n k).flatten.length = n * k.length := by simp
          rw [hlen] at g1 g2 g3 g4
          have hco : P.cellsOf e = k.length := by simp [Program.cellsOf, q1, q3]
          have := run_items (M := M) (β := β) (cx := lx.toArray) (cy := ly.toArray) (IH e k h1) h2 n 0 xs ys r (by simp [g1]) (by simp [g2]) g3 g4 (by simpa using hx) (by simpa using hy) hc w d
          simp only [asV, aggD, if_true]
          rw [show d + (m + 1) = (d + m) + 1 from rfl, run_equalIn_array w (d + m) lx.toArray ly.toArray hu q1, hco, List.range_eq_range']
          exact this
        · cases h
      · cases h
    · rename_i fs hu
      split at h
      · cases h
      · rename_i hst
        refine ⟨_, hu, fun hf => by simp [aggD] at hf, ?_⟩
        intro M β lx ly xs ys r w d g1 g2 g3 g4 hx hy hc
        have := run_fields (M := M) (β := β) (cx := lx.toArray) (cy := ly.toArray) (fun t k hk => IH t k hk) fs.toList 0 ks xs ys r h (by simp [g1]) (by simp [g2]) g3 g4 (by simpa using hx) (by simpa using hy) hc w d
        have hf : P.fieldsOf t = fs := by simp [Program.fieldsOf, hu]
        simp only [asV, aggD, if_true]
        rw [show d + (m + 1) = (d + m) + 1 from rfl, run_equalIn_struct w (d + m) t _ _ (by rw [hf]; exact hu) hst, hf]
        exact this
    · cases h

theorem cellsEq_len : ∀ {ks : List CK} {xs ys : List D} {r : Bool}, cellsEq ks xs ys = some r → xs.length = ks.length ∧ ys.length = ks.length
  | [], [], [], _, _ => ⟨rfl, rfl⟩
  | k :: ks, x :: xs, y :: ys, r, h => by
    simp only [cellsEq] at h
    split at h
    · rename_i p q h1 h2
      obtain ⟨h3, h4⟩ := cellsEq_len h2
      exact ⟨by simp [h3], by simp [h4]⟩
    · cases h
  | [], _ :: _, _, _, h => by simp [cellsEq] at h
  | [], [], _ :: _, _, h => by simp [cellsEq] at h
  | _ :: _, [], _, _, h => by simp [cellsEq] at h
  | _ :: _, _ :: _, [], _, h => by simp [cellsEq] at h

theorem eqc_ok {ks : List CK} {neg : Bool} {x y : Opd} (hm : matOp P o.op (.eqk (.cells ks) neg x y) = true) (hi : Inv β M H w) (he : HE M β a E (IOp.tmps (.eqk (.cells ks) neg x y))) : OpOk P o a w β M H (iev cx (.eqk (.cells ks) neg x y) E H) := by
  obtain ⟨dst, op', ty, pos, after, guard⟩ := o
  simp only [iev]
  simp only [IOp.tmps] at he
  simp only [matOp] at hm
  split at hm
  · rename_i b t x' y' t'
    simp only [Bool.and_eq_true] at hm
    obtain ⟨⟨⟨h1, h2⟩, h3⟩, h4⟩ := hm
    split
    · rename_i d1 d2 hx hy
      have v1 := opd_sound h2 (he_l he) hx
      have v2 := opd_sound h3 (he_r he) hy
      split
      · rename_i r hr
        refine ok_same (w' := w) (v := .bool (neg != r)) hi (eq_exec ?_) (Grew.refl w) VV_bool
        simp only [eqkD] at hr
        split at hr
        · rename_i xs ys
          obtain ⟨cx, e1, l1, g1⟩ := VV_agg_inv v1
          obtain ⟨cy, e2, l2, g2⟩ := VV_agg_inv v2
          unfold isEqT at h4
          split at h4
          · rename_i ks' d hT hu
            simp only [Bool.and_eq_true, decide_eq_true_eq, Bool.not_eq_true'] at h4
            obtain ⟨⟨rfl, h5⟩, h6⟩ := h4
            obtain ⟨td, q1, q2, q3⟩ := eqOK P 8 t ks' hT
            rw [hu] at q1
            cases q1
            obtain ⟨c1, c2⟩ := cellsEq_len hr
            have he1 := q3 M β cx.toList cy.toList xs ys r w 9992 (by simp [l1, c1]) (by simp [l2, c2]) c1 c2 g1 g2 hr
            simp only [asV, h5, if_true, Array.toArray_toList] at he1
            rw [e1, e2]
            simp only [Sem.run_bind, run_eqGuard_agg w b t x' y' cx cy h6, Result.andThen_ok]
            cases b <;> simp only [Bool.false_eq_true] at h1
            · have hn : neg = false := by simpa using h1
              subst hn
              rw [run_eql_struct, he1]
              simp
            · subst h1
              rw [run_neq_struct, he1]
              simp
          · cases h4
        · cases hr
      · trivial
    · trivial
  · cases hm

/-! ### floats' bits -/
def FofOK (P : Program) (g : Nat) : Prop := ∀ (n : Int) (w : World), (callFunc g #[.int .u64 n]).run P w = .ok (.value (.float .f64 n.toNat)) w
def OffOK (P : Program) (g : Nat) : Prop := ∀ (n : Nat) (w : World), (callFunc g #[.float .f64 n]).run P w = .ok (.value (.int .u64 n)) w

theorem fof_ok {g : Nat} {x : Opd} (hg : FofOK P g) (hm : matOp P o.op (.fof g x) = true) (hi : Inv β M H w) (he : HE M β a E (IOp.tmps (.fof g x))) : OpOk P o a w β M H (iev cx (.fof g x) E H) := by
  obtain ⟨dst, op', ty, pos, after, guard⟩ := o
  simp only [iev]
  simp only [IOp.tmps] at he
  simp only [matOp] at hm
  split at hm
  · rename_i c
    obtain ⟨callee, args, argTypes⟩ := c
    simp only [Bool.and_eq_true] at hm
    obtain ⟨h1, h2⟩ := hm
    obtain ⟨y, rfl, h2'⟩ := matOpds_one h2
    split at h1
    · rename_i g'
      obtain rfl := Nat.eq_of_beq_eq_true h1
      split
      · split
        · rename_i n hx
          have e1 := (VV_s_inv (opd_sound h2' he hx)).1
          have := hg n w
          have ef : a.eval (Operand.func g) = Value.func (.func g) #[] #[] := rfl
          exact ok_same (w' := w) (v := .float .f64 n.toNat) hi (by simp [execOp, resolve, Deferred.ofValue, ef, invoke, e1, this]) (Grew.refl w) (VV_s rfl M β)
        · trivial
      · trivial
    · cases h1
  · cases hm

theorem off_ok {g : Nat} {x : Opd} (hg : OffOK P g) (hm : matOp P o.op (.off g x) = true) (hi : Inv β M H w) (he : HE M β a E (IOp.tmps (.off g x))) : OpOk P o a w β M H (iev cx (.off g x) E H) := by
  obtain ⟨dst, op', ty, pos, after, guard⟩ := o
  simp only [iev]
  simp only [IOp.tmps] at he
  simp only [matOp] at hm
  split at hm
  · rename_i c
    obtain ⟨callee, args, argTypes⟩ := c
    simp only [Bool.and_eq_true] at hm
    obtain ⟨h1, h2⟩ := hm
    obtain ⟨y, rfl, h2'⟩ := matOpds_one h2
    split at h1
    · rename_i g'
      obtain rfl := Nat.eq_of_beq_eq_true h1
      split
      · split
        · rename_i n hx
          have e1 := (VV_s_inv (opd_sound h2' he hx)).1
          have := hg n w
          have ef : a.eval (Operand.func g) = Value.func (.func g) #[] #[] := rfl
          exact ok_same (w' := w) (v := .int .u64 n) hi (by simp [execOp, resolve, Deferred.ofValue, ef, invoke, e1, this]) (Grew.refl w) (VV_s rfl M β)
        · rename_i p hx
          have hv := VV_nonagg (opd_sound h2' he hx) rfl
          simp only [VF] at hv
          obtain ⟨n, h1', h3'⟩ := hv
          have e1 : a.eval y = .float .f64 n := by injection h1'
          have := hg n w
          have ef : a.eval (Operand.func g) = Value.func (.func g) #[] #[] := rfl
          refine ok_same (w' := w) (v := .int .u64 n) hi (by simp [execOp, resolve, Deferred.ofValue, ef, invoke, e1, this]) (Grew.refl w) ⟨rfl, ?_⟩
          simp only [VF, Value.cells]
          exact ⟨n, rfl, h3'⟩
        · trivial
      · trivial
    · cases h1
  · cases hm

end
end Go.Mini
