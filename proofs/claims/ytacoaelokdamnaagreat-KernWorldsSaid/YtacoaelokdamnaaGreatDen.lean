/- What a program means when nothing bounds how long it runs: the interpreter without its fuel. -/
import Derived.Test.YtacoaelokdamnaaGreatTab
set_option linter.all false
set_option linter.unusedSimpArgs false
set_option linter.unusedVariables false
namespace Go.Mini

/-! ### The interpreter says no more with less fuel -/
def Rs.le {α : Type} (a b : Rs α) : Prop := a = .no ∨ b = a
def Rc.le (a b : Rc) : Prop := a = .no ∨ b = a
def Ri.le (a b : Ri) : Prop := a = .no ∨ b = a

structure Cx.le (c d : Cx) : Prop where
  pc : ∀ f k ds, (c.pc f k ds).le (d.pc f k ds)
  lc : ∀ f k ds H, (c.lc f k ds H).le (d.lc f k ds H)
  fo : d.fo = c.fo
  of : d.of = c.of
  nw : d.nw = c.nw

theorem callD_mono {c d : Cx} (h : c.le d) (live : Bool) (f k : Nat) (ds : List D) (H : Heap) : (callD c live f k ds H).le (callD d live f k ds H) := by
  cases live
  · simp only [callD]
    cases fzArgs H ds with
    | none => exact .inl rfl
    | some p =>
      obtain ⟨es, bo⟩ := p
      simp only
      rcases h.pc f k (canons es) with e | e
      · rw [e]; exact .inl rfl
      · rw [e]; exact .inr rfl
  · simp only [callD]
    exact h.lc f k ds H

theorem iev_mono {c d : Cx} (h : c.le d) (op : IOp) (E : Env) (H : Heap) : (iev c op E H).le (iev d op E H) := by
  cases op
  case call live f k xs =>
    simp only [iev]
    cases evs xs E with
    | none => exact .inl rfl
    | some ds => exact callD_mono h _ _ _ _ _
  case clv live x xs =>
    simp only [iev]
    split
    · exact callD_mono h _ _ _ _ _
    · exact .inl rfl
  case fof g x => simp only [iev, h.fo]; exact .inr rfl
  case off g x => simp only [iev, h.of]; exact .inr rfl
  case nwc f xs => simp only [iev, h.nw]; exact .inr rfl
  all_goals exact .inr rfl

theorem runIns_mono {c d : Cx} (h : c.le d) : ∀ (ins : List Ins) (E : Env) (H : Heap), (runIns c ins E H).le (runIns d ins E H)
  | [], _, _ => .inr rfl
  | i :: r, E, H => by
    simp only [runIns]
    cases wants i.g E with
    | none => exact .inl rfl
    | some b =>
      cases b
      · exact runIns_mono h r _ _
      · simp only
        rcases iev_mono h i.op E H with e | e
        · rw [e]; exact .inl rfl
        · rw [e]
          cases iev c i.op E H with
          | ok p => exact runIns_mono h r _ _
          | pan => exact .inr rfl
          | no => exact .inl rfl

theorem runDrw_alloc {c : Cx} {pk : List Nat} {E0 : Env} {dst : Option Nat} {g : Option (Nat × Bool)} {zs : List D} {r : List Ins} {j na : Nat} {E : Env} {H : Heap} :
    runDrw c pk E0 (⟨dst, g, .alloc zs⟩ :: r) j na E H = runDrw c pk E0 r (j + 1) (na + 1) (putD dst (.ptr na 0) E) H := rfl

/-- One operation of a region whose order is open, beside the making of a block. -/
def drwOne (cx : Cx) (pk : List Nat) (E0 : Env) (i : Ins) (r : List Ins) (j na : Nat) (E : Env) (H : Heap) : Ri :=
  match wants i.g E with
  | none => .no
  | some false => runDrw cx pk E0 r (j + 1) na (putD i.dst (.tup []) E) H
  | some true => match iev cx i.op E H with
    | .ok (d, H') => match zerosAt H' na (allocsOf r) with
      | true => runDrw cx pk E0 r (j + 1) na (putD i.dst d E) H'
      | false => .no
    | .pan d H' => match pk.contains j with
      | true => .pan d E0 H'
      | false => .no
    | .no => .no

def IOp.isAlloc : IOp → Bool
  | .alloc _ => true
  | _ => false

theorem runDrw_one {cx : Cx} {pk : List Nat} {E0 : Env} {i : Ins} {r : List Ins} {j na : Nat} {E : Env} {H : Heap} (h : i.op.isAlloc = false) :
    runDrw cx pk E0 (i :: r) j na E H = drwOne cx pk E0 i r j na E H := by
  obtain ⟨dst, g, op⟩ := i
  cases op <;> first | rfl | cases h

theorem runDrw_mono {c d : Cx} (h : c.le d) (pk : List Nat) (E0 : Env) : ∀ (ins : List Ins) (j na : Nat) (E : Env) (H : Heap), (runDrw c pk E0 ins j na E H).le (runDrw d pk E0 ins j na E H)
  | [], _, _, _, _ => .inr rfl
  | i :: r, j, na, E, H => by
    by_cases ha : i.op.isAlloc = true
    · obtain ⟨dst, g, op⟩ := i
      cases op <;> simp only [IOp.isAlloc] at ha <;> try cases ha
      rw [runDrw_alloc, runDrw_alloc]
      exact runDrw_mono h pk E0 r _ _ _ _
    · have ha : i.op.isAlloc = false := by simpa using ha
      rw [runDrw_one ha, runDrw_one ha]
      unfold drwOne
      cases wants i.g E with
      | none => exact .inl rfl
      | some b =>
        cases b
        · exact runDrw_mono h pk E0 r _ _ _ _
        · simp only
          rcases iev_mono h i.op E H with e | e
          · rw [e]; exact .inl rfl
          · rw [e]
            cases iev c i.op E H with
            | ok p =>
              obtain ⟨x, H'⟩ := p
              simp only
              split
              · exact runDrw_mono h pk E0 r _ _ _ _
              · exact .inl rfl
            | pan => exact .inr rfl
            | no => exact .inl rfl

theorem runLoop_mono {f g : St → Rc} (h : ∀ st, (f st).le (g st)) : ∀ {n m : Nat}, n ≤ m → ∀ st, (runLoop f n st).le (runLoop g m st)
  | 0, _, _, _ => .inl rfl
  | n + 1, m, hm, st => by
    obtain ⟨m, rfl⟩ : ∃ k, m = k + 1 := ⟨m - 1, by omega⟩
    simp only [runLoop]
    rcases h st with e | e
    · rw [e]; exact .inl rfl
    · rw [e]
      cases f st with
      | ok x st' => cases x <;> first | exact runLoop_mono h (by omega) st' | exact .inr rfl
      | pan => exact .inr rfl
      | no => exact .inl rfl

theorem run_mono {c d : Cx} (h : c.le d) {n m : Nat} (hm : n ≤ m) : ∀ (ir : IR) (st : St), (run c n ir st).le (run d m ir st)
  | .skip, _ => .inr rfl
  | .reg ins keep, st => by
    simp only [run]
    rcases runIns_mono h ins st.e st.h with e | e
    · rw [e]; exact .inl rfl
    · rw [e]; exact .inr rfl
  | .drw ins pk fp keep, st => by
    simp only [run]
    rcases runDrw_mono h pk (dropE ins st.e) ins 0 st.h.length st.e (st.h ++ allocsOf ins) with e | e
    · rw [e]; exact .inl rfl
    · rw [e]; exact .inr rfl
  | .dfr ins x xs keep, st => by
    simp only [run]
    rcases runIns_mono h ins st.e st.h with e | e
    · rw [e]; exact .inl rfl
    · rw [e]; exact .inr rfl
  | .seq a b, st => by
    simp only [run]
    rcases run_mono h hm a st with e | e
    · rw [e]; exact .inl rfl
    · rw [e]
      cases run c n a st with
      | ok x st' => cases x <;> first | exact run_mono h hm b st' | exact .inr rfl
      | pan => exact .inr rfl
      | no => exact .inl rfl
  | .cond x a b, st => by
    simp only [run]
    split
    · exact run_mono h hm a st
    · exact run_mono h hm b st
    · exact .inl rfl
  | .block id a, st => by
    simp only [run]
    rcases run_mono h hm a st with e | e
    · rw [e]; exact .inl rfl
    · rw [e]; exact .inr rfl
  | .loop a, st => by
    simp only [run]
    exact runLoop_mono (fun st => run_mono h hm a st) hm st
  | .exit _, _ => .inr rfl
  | .ret, _ => .inr rfl
  | .bad, _ => .inl rfl

theorem Rs.le_refl {α : Type} (a : Rs α) : a.le a := .inr rfl
theorem Rs.le_trans {α : Type} {a b c : Rs α} (h : a.le b) (k : b.le c) : a.le c := by
  rcases h with h | h
  · exact .inl h
  · rcases k with k | k
    · exact .inl (h ▸ k)
    · exact .inr (k.trans h)

theorem runDfs_mono {tbl : Nat → Option FnIR} {c d : Cx} (h : c.le d) {n m : Nat} (hm : n ≤ m) : ∀ (l : List Dfd) (x : Option D) (H : Heap), (runDfs tbl c n l x H).le (runDfs tbl d m l x H)
  | [], _, _ => .inr rfl
  | y :: l, x, H => by
    simp only [runDfs]
    cases tbl y.f with
    | none => exact .inl rfl
    | some ir =>
      simp only
      cases ir.rcv with
      | none => exact .inl rfl
      | some p =>
        obtain ⟨t0, t1⟩ := p
        simp only
        rcases run_mono h hm ir.body ⟨(t1, rcvD x) :: (t0, rcvD x) :: argEnv 0 y.args, H, []⟩ with e | e
        · rw [e]; exact .inl rfl
        · rw [e]
          cases run c n ir.body ⟨(t1, rcvD x) :: (t0, rcvD x) :: argEnv 0 y.args, H, []⟩ with
          | ok z st =>
            cases z with
            | nxt =>
              simp only
              cases st.df with
              | nil => exact runDfs_mono h hm l _ _
              | cons _ _ => exact .inl rfl
            | exit => exact .inl rfl
            | ret =>
              simp only
              cases st.df with
              | nil => exact runDfs_mono h hm l _ _
              | cons _ _ => exact .inl rfl
          | pan => exact .inl rfl
          | no => exact .inl rfl

theorem finish_mono {tbl : Nat → Option FnIR} {c d : Cx} (h : c.le d) {n m : Nat} (hm : n ≤ m) (ir : FnIR) (x : Option D) (st : St) : (finish tbl c n ir x st).le (finish tbl d m ir x st) := by
  unfold finish
  rcases runDfs_mono (tbl := tbl) h hm st.df x st.h with e | e
  · rw [e]; exact .inl rfl
  · rw [e]; exact .inr rfl

theorem runFn_mono {tbl : Nat → Option FnIR} {c d : Cx} (h : c.le d) {n m : Nat} (hm : n ≤ m) (ir : FnIR) (ds : List D) (H : Heap) : (runFn tbl c n ir ds H).le (runFn tbl d m ir ds H) := by
  unfold runFn
  cases ir.rcv with
  | some _ => exact .inl rfl
  | none =>
    simp only
    rcases run_mono h hm ir.body ⟨argEnv 0 ds, H, []⟩ with e | e
    · rw [e]; exact .inl rfl
    · rw [e]
      cases run c n ir.body ⟨argEnv 0 ds, H, []⟩ with
      | ok z st => cases z <;> first | exact finish_mono h hm _ _ _ | exact .inl rfl
      | pan => exact finish_mono h hm _ _ _
      | no => exact .inl rfl

/-- What is known with so much fuel. -/
def cxN (T : Tbl) (n : Nat) : Cx := ⟨callP T n, callL T n, T.fo, T.of, T.nw⟩

/-- A pure call's answer out of the function's. -/
def pureOf (r : Rs (D × Heap)) : Rs D :=
  match r with
  | .ok (d, H) => (match fz false H 24 d with
    | some r => .ok (canon r)
    | none => .no)
  | .pan d H => (match fz false H 24 d with
    | some r => .pan (canon r) []
    | none => .no)
  | .no => .no

theorem callP_succ (T : Tbl) (n f k : Nat) (ds : List D) : callP T (n + 1) f k ds = match T.ex f ds with
    | some d => .ok d
    | none => match T.fn f k with
      | none => .no
      | some ir => pureOf (runFn (fun g => T.fn g 0) (cxN T n) n ir ds []) := by
  rw [callP]
  cases T.ex f ds with
  | some d => rfl
  | none =>
    simp only
    cases T.fn f k with
    | none => rfl
    | some ir =>
      simp only [cxN, pureOf]
      cases runFn (fun g => T.fn g 0) ⟨callP T n, callL T n, T.fo, T.of, T.nw⟩ n ir ds [] <;> rfl
theorem callL_succ (T : Tbl) (n f k : Nat) (ds : List D) (H : Heap) : callL T (n + 1) f k ds H = match T.el f ds H with
    | some r => .ok r
    | none => match T.fn f k with
      | none => .no
      | some ir => runFn (fun g => T.fn g 0) (cxN T n) n ir ds H := by
  rw [callL]
  cases T.el f ds H with
  | some d => rfl
  | none =>
    simp only
    cases T.fn f k with
    | none => rfl
    | some ir => rfl

theorem cxN_step (T : Tbl) : ∀ n, (cxN T n).le (cxN T (n + 1))
  | 0 => ⟨fun f k ds => .inl (by simp [cxN, callP]), fun f k ds H => .inl (by simp [cxN, callL]), rfl, rfl, rfl⟩
  | n + 1 => by
    have ih := cxN_step T n
    refine ⟨?_, ?_, rfl, rfl, rfl⟩
    · intro f k ds
      show (callP T (n + 1) f k ds).le (callP T (n + 2) f k ds)
      rw [callP_succ, callP_succ]
      cases T.ex f ds with
      | some d => exact .inr rfl
      | none =>
        simp only
        cases T.fn f k with
        | none => exact .inl rfl
        | some ir =>
          simp only
          rcases runFn_mono (tbl := fun g => T.fn g 0) ih (Nat.le_succ n) ir ds [] with e | e
          · rw [e]; exact .inl rfl
          · rw [e]; exact .inr rfl
    · intro f k ds H
      show (callL T (n + 1) f k ds H).le (callL T (n + 2) f k ds H)
      rw [callL_succ, callL_succ]
      cases T.el f ds H with
      | some d => exact .inr rfl
      | none =>
        simp only
        cases T.fn f k with
        | none => exact .inl rfl
        | some ir => exact runFn_mono (tbl := fun g => T.fn g 0) ih (Nat.le_succ n) ir ds H

theorem Cx.le_refl (c : Cx) : c.le c := ⟨fun _ _ _ => .inr rfl, fun _ _ _ _ => .inr rfl, rfl, rfl, rfl⟩
theorem Cx.le_trans {a b c : Cx} (h : a.le b) (k : b.le c) : a.le c :=
  ⟨fun f i ds => Rs.le_trans (h.pc f i ds) (k.pc f i ds), fun f i ds H => Rs.le_trans (h.lc f i ds H) (k.lc f i ds H), k.fo.trans h.fo, k.of.trans h.of, k.nw.trans h.nw⟩

theorem cxN_mono (T : Tbl) {n m : Nat} (h : n ≤ m) : (cxN T n).le (cxN T m) := by
  induction m with
  | zero => obtain rfl : n = 0 := by omega
            exact Cx.le_refl _
  | succ m ih =>
    rcases Nat.lt_or_ge m n with e | e
    · obtain rfl : n = m + 1 := by omega
      exact Cx.le_refl _
    · exact Cx.le_trans (ih e) (cxN_step T m)

/-! ### Without fuel -/
open Classical in
noncomputable def limS {α : Type} (f : Nat → Rs α) : Rs α := if h : ∃ n, f n ≠ .no then f h.choose else .no
open Classical in
noncomputable def limC (f : Nat → Rc) : Rc := if h : ∃ n, f n ≠ .no then f h.choose else .no

theorem limS_eq {α : Type} {f : Nat → Rs α} (hf : ∀ n m, n ≤ m → (f n).le (f m)) {n : Nat} {r : Rs α} (h : f n = r) (hr : r ≠ .no) : limS f = r := by
  have hex : ∃ n, f n ≠ .no := ⟨n, by rw [h]; exact hr⟩
  unfold limS
  rw [dif_pos hex]
  have hc := hex.choose_spec
  rcases Nat.le_total hex.choose n with e | e
  · rcases hf _ _ e with k | k
    · exact absurd k hc
    · rw [← k, h]
  · rcases hf _ _ e with k | k
    · rw [h] at k; exact absurd k hr
    · rw [k, h]
theorem limS_ex {α : Type} {f : Nat → Rs α} {r : Rs α} (h : limS f = r) (hr : r ≠ .no) : ∃ n, f n = r := by
  unfold limS at h
  split at h
  · exact ⟨_, h⟩
  · exact absurd h.symm hr
theorem limC_eq {f : Nat → Rc} (hf : ∀ n m, n ≤ m → (f n).le (f m)) {n : Nat} {r : Rc} (h : f n = r) (hr : r ≠ .no) : limC f = r := by
  have hex : ∃ n, f n ≠ .no := ⟨n, by rw [h]; exact hr⟩
  unfold limC
  rw [dif_pos hex]
  have hc := hex.choose_spec
  rcases Nat.le_total hex.choose n with e | e
  · rcases hf _ _ e with k | k
    · exact absurd k hc
    · rw [← k, h]
  · rcases hf _ _ e with k | k
    · rw [h] at k; exact absurd k hr
    · rw [k, h]
theorem limC_ex {f : Nat → Rc} {r : Rc} (h : limC f = r) (hr : r ≠ .no) : ∃ n, f n = r := by
  unfold limC at h
  split at h
  · exact ⟨_, h⟩
  · exact absurd h.symm hr

theorem limS_le {α : Type} {f : Nat → Rs α} (hf : ∀ n m, n ≤ m → (f n).le (f m)) (n : Nat) : (f n).le (limS f) := by
  by_cases h : f n = .no
  · exact .inl h
  · exact .inr (limS_eq hf rfl h)
theorem limC_le {f : Nat → Rc} (hf : ∀ n m, n ≤ m → (f n).le (f m)) (n : Nat) : (f n).le (limC f) := by
  by_cases h : f n = .no
  · exact .inl h
  · exact .inr (limC_eq hf rfl h)
theorem limS_fix {α : Type} {f : Nat → Rs α} {F : Rs α} (h1 : ∀ n, (f n).le F) (h2 : F = .no ∨ ∃ n, f n = F) : limS f = F := by
  unfold limS
  split
  · rename_i h
    rcases h1 h.choose with e | e
    · exact absurd e h.choose_spec
    · exact e.symm
  · rename_i h
    rcases h2 with e | ⟨n, e⟩
    · exact e.symm
    · by_cases hn : f n = .no
      · rw [← e, hn]
      · exact absurd ⟨n, hn⟩ h
theorem limC_fix {f : Nat → Rc} {F : Rc} (h1 : ∀ n, (f n).le F) (h2 : F = .no ∨ ∃ n, f n = F) : limC f = F := by
  unfold limC
  split
  · rename_i h
    rcases h1 h.choose with e | e
    · exact absurd e h.choose_spec
    · exact e.symm
  · rename_i h
    rcases h2 with e | ⟨n, e⟩
    · exact e.symm
    · by_cases hn : f n = .no
      · rw [← e, hn]
      · exact absurd ⟨n, hn⟩ h

section
variable (T : Tbl)
/-- What a pure call answers, a call in a heap, a piece of code. -/
noncomputable def PC (f k : Nat) (ds : List D) : Rs D := limS fun n => callP T n f k ds
noncomputable def LC (f k : Nat) (ds : List D) (H : Heap) : Rs (D × Heap) := limS fun n => callL T n f k ds H
noncomputable def RunW (ir : IR) (st : St) : Rc := limC fun n => run (cxN T n) n ir st
noncomputable def cxW : Cx := ⟨PC T, LC T, T.fo, T.of, T.nw⟩
end
variable {T : Tbl}

theorem callP_up (f k : Nat) (ds : List D) : ∀ n m, n ≤ m → (callP T n f k ds).le (callP T m f k ds) := fun n m h => (cxN_mono T h).pc f k ds
theorem callL_up (f k : Nat) (ds : List D) (H : Heap) : ∀ n m, n ≤ m → (callL T n f k ds H).le (callL T m f k ds H) := fun n m h => (cxN_mono T h).lc f k ds H
theorem run_up (ir : IR) (st : St) : ∀ n m, n ≤ m → (run (cxN T n) n ir st).le (run (cxN T m) m ir st) := fun n m h => run_mono (cxN_mono T h) h ir st

theorem PC_ex {f k : Nat} {ds : List D} {r : Rs D} (h : PC T f k ds = r) (hr : r ≠ .no) : ∃ n, callP T n f k ds = r := limS_ex h hr
theorem PC_eq {f k : Nat} {ds : List D} {r : Rs D} {n : Nat} (h : callP T n f k ds = r) (hr : r ≠ .no) : PC T f k ds = r := limS_eq (callP_up f k ds) h hr
theorem LC_ex {f k : Nat} {ds : List D} {H : Heap} {r : Rs (D × Heap)} (h : LC T f k ds H = r) (hr : r ≠ .no) : ∃ n, callL T n f k ds H = r := limS_ex h hr
theorem LC_eq {f k : Nat} {ds : List D} {H : Heap} {r : Rs (D × Heap)} {n : Nat} (h : callL T n f k ds H = r) (hr : r ≠ .no) : LC T f k ds H = r := limS_eq (callL_up f k ds H) h hr
theorem RunW_ex {ir : IR} {st : St} {r : Rc} (h : RunW T ir st = r) (hr : r ≠ .no) : ∃ n, run (cxN T n) n ir st = r := limC_ex h hr
theorem RunW_eq {ir : IR} {st : St} {r : Rc} {n : Nat} (h : run (cxN T n) n ir st = r) (hr : r ≠ .no) : RunW T ir st = r := limC_eq (run_up ir st) h hr

theorem cxN_W (n : Nat) : (cxN T n).le (cxW T) := ⟨fun f k ds => limS_le (callP_up f k ds) n, fun f k ds H => limS_le (callL_up f k ds H) n, rfl, rfl, rfl⟩
theorem run_W (n : Nat) (ir : IR) (st : St) : (run (cxN T n) n ir st).le (RunW T ir st) := limC_le (run_up ir st) n

/-- What is asked of all calls is found with some fuel. -/
theorem PC_cont (f k : Nat) (ds : List D) : ∃ n, (cxN T n).pc f k ds = PC T f k ds := by
  by_cases h : PC T f k ds = .no
  · exact ⟨0, by rw [h]; simp [cxN, callP]⟩
  · exact PC_ex rfl h
theorem LC_cont (f k : Nat) (ds : List D) (H : Heap) : ∃ n, (cxN T n).lc f k ds H = LC T f k ds H := by
  by_cases h : LC T f k ds H = .no
  · exact ⟨0, by rw [h]; simp [cxN, callL]⟩
  · exact LC_ex rfl h

theorem callD_cont (live : Bool) (f k : Nat) (ds : List D) (H : Heap) : ∃ n, callD (cxN T n) live f k ds H = callD (cxW T) live f k ds H := by
  cases live
  · simp only [callD]
    cases fzArgs H ds with
    | none => exact ⟨0, rfl⟩
    | some p =>
      obtain ⟨es, bo⟩ := p
      obtain ⟨n, hn⟩ := PC_cont (T := T) f k (canons es)
      exact ⟨n, by simp only [hn]; rfl⟩
  · exact LC_cont f k ds H

theorem iev_cont (op : IOp) (E : Env) (H : Heap) : ∃ n, iev (cxN T n) op E H = iev (cxW T) op E H := by
  cases op
  case call live f k xs =>
    simp only [iev]
    cases evs xs E with
    | none => exact ⟨0, rfl⟩
    | some ds => exact callD_cont _ _ _ _ _
  case clv live x xs =>
    simp only [iev]
    split
    · exact callD_cont _ _ _ _ _
    · exact ⟨0, rfl⟩
  all_goals exact ⟨0, rfl⟩

theorem iev_with (op : IOp) (E : Env) (H : Heap) : ∃ n, ∀ m, n ≤ m → iev (cxN T m) op E H = iev (cxW T) op E H := by
  obtain ⟨n, hn⟩ := iev_cont (T := T) op E H
  refine ⟨n, fun m hm => ?_⟩
  by_cases h : iev (cxW T) op E H = .no
  · rcases iev_mono (cxN_W (T := T) m) op E H with e | e
    · rw [e, h]
    · exact e.symm
  · rcases iev_mono (cxN_mono T hm) op E H with e | e
    · rw [hn] at e; exact absurd e h
    · rw [e, hn]

theorem runIns_with : ∀ (ins : List Ins) (E : Env) (H : Heap), ∃ n, ∀ m, n ≤ m → runIns (cxN T m) ins E H = runIns (cxW T) ins E H
  | [], _, _ => ⟨0, fun _ _ => rfl⟩
  | i :: r, E, H => by
    simp only [runIns]
    cases wants i.g E with
    | none => exact ⟨0, fun _ _ => rfl⟩
    | some b =>
      cases b
      · exact runIns_with r _ _
      · simp only
        obtain ⟨n, hn⟩ := iev_with (T := T) i.op E H
        cases hi : iev (cxW T) i.op E H with
        | ok p =>
          obtain ⟨n2, hn2⟩ := runIns_with r (putD i.dst p.1 E) p.2
          exact ⟨max n n2, fun m hm => by rw [hn m (by omega), hi]; exact hn2 m (by omega)⟩
        | pan d H' => exact ⟨n, fun m hm => by rw [hn m hm, hi]⟩
        | no => exact ⟨n, fun m hm => by rw [hn m hm, hi]⟩

theorem runDrw_with (pk : List Nat) (E0 : Env) : ∀ (ins : List Ins) (j na : Nat) (E : Env) (H : Heap), ∃ n, ∀ m, n ≤ m → runDrw (cxN T m) pk E0 ins j na E H = runDrw (cxW T) pk E0 ins j na E H
  | [], _, _, _, _ => ⟨0, fun _ _ => rfl⟩
  | i :: r, j, na, E, H => by
    by_cases ha : i.op.isAlloc = true
    · obtain ⟨dst, g, op⟩ := i
      cases op <;> simp only [IOp.isAlloc] at ha <;> try cases ha
      simp only [runDrw_alloc]
      exact runDrw_with pk E0 r _ _ _ _
    · have ha : i.op.isAlloc = false := by simpa using ha
      simp only [runDrw_one ha]
      unfold drwOne
      cases wants i.g E with
      | none => exact ⟨0, fun _ _ => rfl⟩
      | some b =>
        cases b
        · exact runDrw_with pk E0 r _ _ _ _
        · simp only
          obtain ⟨n, hn⟩ := iev_with (T := T) i.op E H
          cases hi : iev (cxW T) i.op E H with
          | ok p =>
            obtain ⟨x, H'⟩ := p
            obtain ⟨n2, hn2⟩ := runDrw_with pk E0 r (j + 1) na (putD i.dst x E) H'
            refine ⟨max n n2, fun m hm => ?_⟩
            rw [hn m (by omega), hi]
            simp only
            rw [hn2 m (by omega)]
          | pan d H' => exact ⟨n, fun m hm => by rw [hn m hm, hi]⟩
          | no => exact ⟨n, fun m hm => by rw [hn m hm, hi]⟩

/-! ### The equations -/
/-- What is done behind a piece of code that ended as usual. -/
def andThen (r : Rc) (k : St → Rc) : Rc :=
  match r with
  | .ok .nxt st => k st
  | r => r
@[simp] theorem andThen_nxt (st : St) (k : St → Rc) : andThen (.ok .nxt st) k = k st := rfl
@[simp] theorem andThen_exit (i : Nat) (st : St) (k : St → Rc) : andThen (.ok (.exit i) st) k = .ok (.exit i) st := rfl
@[simp] theorem andThen_ret (st : St) (k : St → Rc) : andThen (.ok .ret st) k = .ok .ret st := rfl
@[simp] theorem andThen_pan (d : D) (st : St) (k : St → Rc) : andThen (.pan d st) k = .pan d st := rfl
@[simp] theorem andThen_no (k : St → Rc) : andThen .no k = .no := rfl
@[simp] theorem andThen_ite (c : Prop) [Decidable c] (a b : Rc) (k : St → Rc) : andThen (if c then a else b) k = if c then andThen a k else andThen b k := by
  split <;> rfl

/-- Out of a block. -/
def unblock (id : Nat) (r : Rc) : Rc :=
  match r with
  | .ok (.exit j) st => if j = id then .ok .nxt st else .ok (.exit j) st
  | r => r
@[simp] theorem unblock_nxt (id : Nat) (st : St) : unblock id (.ok .nxt st) = .ok .nxt st := rfl
@[simp] theorem unblock_exit (id i : Nat) (st : St) : unblock id (.ok (.exit i) st) = if i = id then .ok .nxt st else .ok (.exit i) st := rfl
@[simp] theorem unblock_ret (id : Nat) (st : St) : unblock id (.ok .ret st) = .ok .ret st := rfl
@[simp] theorem unblock_pan (id : Nat) (d : D) (st : St) : unblock id (.pan d st) = .pan d st := rfl
@[simp] theorem unblock_no (id : Nat) : unblock id .no = .no := rfl
@[simp] theorem unblock_ite (id : Nat) (c : Prop) [Decidable c] (a b : Rc) : unblock id (if c then a else b) = if c then unblock id a else unblock id b := by
  split <;> rfl

/-- One of two ways. -/
def choose2 (c : Option D) (f g : St → Rc) (st : St) : Rc :=
  match c with
  | some (.s (.bool true)) => f st
  | some (.s (.bool false)) => g st
  | _ => .no
@[simp] theorem choose2_true (f g : St → Rc) (st : St) : choose2 (some (.s (.bool true))) f g st = f st := rfl
@[simp] theorem choose2_false (f g : St → Rc) (st : St) : choose2 (some (.s (.bool false))) f g st = g st := rfl
theorem choose2_bool (b : Bool) (f g : St → Rc) (st : St) : choose2 (some (.s (.bool b))) f g st = if b = true then f st else g st := by
  cases b <;> rfl

theorem RunW_skip (st : St) : RunW T .skip st = .ok .nxt st := RunW_eq (n := 0) rfl (by simp)
theorem RunW_exit (id : Nat) (st : St) : RunW T (.exit id) st = .ok (.exit id) st := RunW_eq (n := 0) rfl (by simp)
theorem RunW_ret (st : St) : RunW T .ret st = .ok .ret st := RunW_eq (n := 0) rfl (by simp)

/-- How a region goes on. -/
def afterI (keep : List Nat) (df : List Dfd) (r : Ri) : Rc :=
  match r with
  | .ok E H => .ok .nxt ⟨keepE keep E, H, df⟩
  | .pan d E H => .pan d ⟨E, H, df⟩
  | .no => .no

theorem RunW_reg (ins : List Ins) (keep : List Nat) (st : St) : RunW T (.reg ins keep) st = afterI keep st.df (runIns (cxW T) ins st.e st.h) := by
  refine limC_fix (fun n => ?_) ?_
  · simp only [run]
    rcases runIns_mono (cxN_W (T := T) n) ins st.e st.h with e | e
    · rw [e]; exact .inl rfl
    · rw [e]; exact .inr rfl
  · obtain ⟨n, hn⟩ := runIns_with (T := T) ins st.e st.h
    exact .inr ⟨n, by simp only [run]; rw [hn n (Nat.le_refl n)]; rfl⟩

def afterD (keep : List Nat) (fp : List (Nat × Nat)) (ins : List Ins) (df : List Dfd) (r : Ri) : Rc :=
  match r with
  | .ok E H => match fpsOk ins E fp with
    | true => .ok .nxt ⟨keepE keep E, H, df⟩
    | false => .no
  | .pan d E H => match fp with
    | [] => .pan d ⟨E, H, df⟩
    | _ :: _ => .no
  | .no => .no

theorem RunW_drw (ins : List Ins) (pk : List Nat) (fp : List (Nat × Nat)) (keep : List Nat) (st : St) :
    RunW T (.drw ins pk fp keep) st = afterD keep fp ins st.df (runDrw (cxW T) pk (dropE ins st.e) ins 0 st.h.length st.e (st.h ++ allocsOf ins)) := by
  refine limC_fix (fun n => ?_) ?_
  · simp only [run]
    rcases runDrw_mono (cxN_W (T := T) n) pk (dropE ins st.e) ins 0 st.h.length st.e (st.h ++ allocsOf ins) with e | e
    · rw [e]; exact .inl rfl
    · rw [e]; exact .inr rfl
  · obtain ⟨n, hn⟩ := runDrw_with (T := T) pk (dropE ins st.e) ins 0 st.h.length st.e (st.h ++ allocsOf ins)
    exact .inr ⟨n, by simp only [run]; rw [hn n (Nat.le_refl n)]; rfl⟩

def afterDf (x : Opd) (xs : List Opd) (keep : List Nat) (df : List Dfd) (r : Ri) : Rc :=
  match r with
  | .ok E H => (match x.ev E, evs xs E with
    | some (.fn f first cap), some ds => .ok .nxt ⟨keepE keep E, H, ⟨f, first ++ ds ++ cap⟩ :: df⟩
    | _, _ => .no)
  | .pan d E H => .pan d ⟨E, H, df⟩
  | .no => .no

theorem RunW_dfr (ins : List Ins) (x : Opd) (xs : List Opd) (keep : List Nat) (st : St) : RunW T (.dfr ins x xs keep) st = afterDf x xs keep st.df (runIns (cxW T) ins st.e st.h) := by
  refine limC_fix (fun n => ?_) ?_
  · simp only [run]
    rcases runIns_mono (cxN_W (T := T) n) ins st.e st.h with e | e
    · rw [e]; exact .inl rfl
    · rw [e]; exact .inr rfl
  · obtain ⟨n, hn⟩ := runIns_with (T := T) ins st.e st.h
    exact .inr ⟨n, by simp only [run]; rw [hn n (Nat.le_refl n)]; rfl⟩

theorem RunW_seq (a b : IR) (st : St) : RunW T (.seq a b) st = andThen (RunW T a st) (RunW T b) := by
  refine limC_fix (fun n => ?_) ?_
  · simp only [run]
    rcases run_W (T := T) n a st with e | e
    · rw [e]; exact .inl rfl
    · rw [e]
      cases run (cxN T n) n a st with
      | ok x st' => cases x <;> first | exact run_W n b st' | exact .inr rfl
      | pan => exact .inr rfl
      | no => exact .inl rfl
  · by_cases h : RunW T a st = .no
    · rw [h]; exact .inl rfl
    · obtain ⟨n, hn⟩ := RunW_ex rfl h
      cases hr : RunW T a st with
      | ok x st' =>
        rw [hr] at hn
        cases x with
        | nxt =>
          simp only [andThen_nxt]
          by_cases h2 : RunW T b st' = .no
          · exact .inl h2
          · obtain ⟨m, hm⟩ := RunW_ex rfl h2
            refine .inr ⟨max n m, ?_⟩
            have e1 : run (cxN T (max n m)) (max n m) a st = .ok .nxt st' := by
              rcases run_up (T := T) a st n (max n m) (by omega) with e | e
              · rw [hn] at e; cases e
              · rw [e, hn]
            have e2 : run (cxN T (max n m)) (max n m) b st' = RunW T b st' := by
              rcases run_up (T := T) b st' m (max n m) (by omega) with e | e
              · rw [hm] at e; exact absurd e h2
              · rw [e, hm]
            simp only [run, e1, e2]
        | exit i => exact .inr ⟨n, by simp only [run, hn]; rfl⟩
        | ret => exact .inr ⟨n, by simp only [run, hn]; rfl⟩
      | pan d st' => rw [hr] at hn; exact .inr ⟨n, by simp only [run, hn]; rfl⟩
      | no => exact absurd hr h

theorem RunW_cond (c : Opd) (a b : IR) (st : St) : RunW T (.cond c a b) st = choose2 (c.ev st.e) (RunW T a) (RunW T b) st := by
  have : ∀ n, run (cxN T n) n (.cond c a b) st = choose2 (c.ev st.e) (run (cxN T n) n a) (run (cxN T n) n b) st := fun n => by
    simp only [run, choose2]
    split <;> simp_all
  refine limC_fix (fun n => ?_) ?_
  · rw [this]
    unfold choose2
    split
    · exact run_W n a st
    · exact run_W n b st
    · exact .inl rfl
  · simp only [this]
    unfold choose2
    split
    · by_cases h : RunW T a st = .no
      · exact .inl h
      · exact .inr (RunW_ex rfl h)
    · by_cases h : RunW T b st = .no
      · exact .inl h
      · exact .inr (RunW_ex rfl h)
    · exact .inl rfl

theorem RunW_block (id : Nat) (a : IR) (st : St) : RunW T (.block id a) st = unblock id (RunW T a st) := by
  have : ∀ n, run (cxN T n) n (.block id a) st = unblock id (run (cxN T n) n a st) := fun n => by
    simp only [run]
    cases run (cxN T n) n a st with
    | ok x st' =>
      cases x with
      | exit j =>
        simp only [unblock_exit]
        by_cases h : j = id
        · subst h; simp
        · have : Nat.beq j id = false := by
            cases hb : Nat.beq j id with
            | false => rfl
            | true => exact absurd (Nat.eq_of_beq_eq_true hb) h
          simp [this, h]
      | _ => rfl
    | _ => rfl
  refine limC_fix (fun n => ?_) ?_
  · rw [this]
    rcases run_W (T := T) n a st with e | e
    · rw [e]; exact .inl rfl
    · rw [e]; exact .inr rfl
  · by_cases h : RunW T a st = .no
    · rw [h]; exact .inl rfl
    · obtain ⟨n, hn⟩ := RunW_ex rfl h
      exact .inr ⟨n, by rw [this, hn]⟩

theorem RunW_loop (a : IR) (st : St) : RunW T (.loop a) st = andThen (RunW T a st) (RunW T (.loop a)) := by
  have up : ∀ {n m : Nat} (st : St), n ≤ m → (run (cxN T n) n a st).le (run (cxN T m) m a st) := fun st h => run_up a st _ _ h
  refine limC_fix (fun n => ?_) ?_
  · -- with fuel n, one round, then with fuel n - 1
    cases n with
    | zero => exact .inl rfl
    | succ n =>
      simp only [run, runLoop]
      rcases run_W (T := T) (n + 1) a st with e | e
      · rw [e]; exact .inl rfl
      · rw [e]
        cases run (cxN T (n + 1)) (n + 1) a st with
        | ok x st' =>
          cases x
          case nxt =>
            simp only [andThen_nxt]
            have h1 : (runLoop (run (cxN T (n + 1)) (n + 1) a) n st').le (run (cxN T (n + 1)) (n + 1) (.loop a) st') := runLoop_mono (fun _ => .inr rfl) (by omega) st'
            rcases h1 with e1 | e1
            · exact .inl e1
            · rw [← e1]; exact run_W (n + 1) (.loop a) st'
          all_goals exact .inr rfl
        | pan => exact .inr rfl
        | no => exact .inl rfl
  · by_cases h : RunW T a st = .no
    · rw [h]; exact .inl rfl
    · obtain ⟨n, hn⟩ := RunW_ex rfl h
      have n1 : ∀ m, n ≤ m → run (cxN T m) m a st = RunW T a st := fun m hm => by
        rcases up st hm with e | e
        · rw [hn] at e; exact absurd e h
        · rw [e, hn]
      have other : (∀ st', RunW T a st ≠ .ok .nxt st') → ∃ n, run (cxN T n) n (.loop a) st = andThen (RunW T a st) (RunW T (.loop a)) := by
        intro hne
        refine ⟨n + 1, ?_⟩
        simp only [run, runLoop]
        rw [n1 (n + 1) (by omega)]
        cases hr : RunW T a st with
        | ok x st' => cases x <;> first | exact absurd hr (hne st') | rfl
        | pan => rfl
        | no => exact absurd hr h
      cases hr : RunW T a st with
      | ok x st' =>
        cases x with
        | nxt =>
          simp only [andThen_nxt]
          by_cases h2 : RunW T (.loop a) st' = .no
          · exact .inl h2
          · obtain ⟨m, hm⟩ := RunW_ex rfl h2
            refine .inr ⟨max n m + 1, ?_⟩
            simp only [run, runLoop]
            rw [n1 _ (by omega), hr]
            simp only
            have h3 : (run (cxN T m) m (.loop a) st').le (runLoop (run (cxN T (max n m + 1)) (max n m + 1) a) (max n m) st') := by
              simp only [run]
              exact runLoop_mono (fun st => up st (by omega)) (by omega) st'
            rcases h3 with e | e
            · rw [hm] at e; exact absurd e h2
            · rw [e, hm]
        | _ => exact .inr (hr ▸ other (fun st'' => by rw [hr]; simp))
      | pan => exact .inr (hr ▸ other (fun st'' => by rw [hr]; simp))
      | no => exact absurd hr h

/-! ### Functions -/
noncomputable def runDfsW (T : Tbl) : List Dfd → Option D → Heap → Rs (Option D × Heap)
  | [], m, H => .ok (m, H)
  | d :: ds, m, H => match T.fn d.f 0 with
    | none => .no
    | some ir => match ir.rcv with
      | none => .no
      | some (t0, t1) =>
        match RunW T ir.body ⟨(t1, rcvD m) :: (t0, rcvD m) :: argEnv 0 d.args, H, []⟩ with
        | .ok .nxt st => match st.df with
          | [] => runDfsW T ds none st.h
          | _ => .no
        | .ok .ret st => match st.df with
          | [] => runDfsW T ds none st.h
          | _ => .no
        | _ => .no

theorem runDfsW_le (n : Nat) : ∀ (l : List Dfd) (m : Option D) (H : Heap), (runDfs (fun g => T.fn g 0) (cxN T n) n l m H).le (runDfsW T l m H)
  | [], _, _ => .inr rfl
  | y :: l, x, H => by
    simp only [runDfs, runDfsW]
    cases T.fn y.f 0 with
    | none => exact .inl rfl
    | some ir =>
      simp only
      cases ir.rcv with
      | none => exact .inl rfl
      | some p =>
        obtain ⟨t0, t1⟩ := p
        simp only
        rcases run_W (T := T) n ir.body ⟨(t1, rcvD x) :: (t0, rcvD x) :: argEnv 0 y.args, H, []⟩ with e | e
        · rw [e]; exact .inl rfl
        · rw [e]
          cases run (cxN T n) n ir.body ⟨(t1, rcvD x) :: (t0, rcvD x) :: argEnv 0 y.args, H, []⟩ with
          | ok z st =>
            cases z with
            | nxt =>
              simp only
              cases st.df with
              | nil => exact runDfsW_le n l _ _
              | cons _ _ => exact .inl rfl
            | exit => exact .inl rfl
            | ret =>
              simp only
              cases st.df with
              | nil => exact runDfsW_le n l _ _
              | cons _ _ => exact .inl rfl
          | pan => exact .inl rfl
          | no => exact .inl rfl

theorem runW_with (ir : IR) (st : St) : ∃ n, ∀ m, n ≤ m → run (cxN T m) m ir st = RunW T ir st := by
  by_cases h : RunW T ir st = .no
  · refine ⟨0, fun m _ => ?_⟩
    rcases run_W (T := T) m ir st with e | e
    · rw [e, h]
    · exact e.symm
  · obtain ⟨n, hn⟩ := RunW_ex rfl h
    refine ⟨n, fun m hm => ?_⟩
    rcases run_up (T := T) ir st n m hm with e | e
    · rw [hn] at e; exact absurd e h
    · rw [e, hn]

theorem runDfsW_with : ∀ (l : List Dfd) (x : Option D) (H : Heap), ∃ n, ∀ m, n ≤ m → runDfs (fun g => T.fn g 0) (cxN T m) m l x H = runDfsW T l x H
  | [], _, _ => ⟨0, fun _ _ => rfl⟩
  | y :: l, x, H => by
    simp only [runDfs, runDfsW]
    cases T.fn y.f 0 with
    | none => exact ⟨0, fun _ _ => rfl⟩
    | some ir =>
      simp only
      cases ir.rcv with
      | none => exact ⟨0, fun _ _ => rfl⟩
      | some p =>
        obtain ⟨t0, t1⟩ := p
        simp only
        obtain ⟨n, hn⟩ := runW_with (T := T) ir.body ⟨(t1, rcvD x) :: (t0, rcvD x) :: argEnv 0 y.args, H, []⟩
        cases hr : RunW T ir.body ⟨(t1, rcvD x) :: (t0, rcvD x) :: argEnv 0 y.args, H, []⟩ with
        | ok z st =>
          obtain ⟨n2, hn2⟩ := runDfsW_with l none st.h
          refine ⟨max n n2, fun m hm => ?_⟩
          rw [hn m (by omega), hr]
          have e := hn2 m (show n2 ≤ m by omega)
          cases z <;> simp only <;> cases hd : st.df <;> first | exact e | rfl
        | pan => exact ⟨n, fun m hm => by rw [hn m hm, hr]⟩
        | no => exact ⟨n, fun m hm => by rw [hn m hm, hr]⟩

noncomputable def finishW (T : Tbl) (ir : FnIR) (m : Option D) (st : St) : Rs (D × Heap) :=
  match runDfsW T st.df m st.h with
  | .ok (some v, H) => .pan v H
  | .ok (none, H) => match resVal st.e H ir.res with
    | some d => .ok (d, H)
    | none => .no
  | _ => .no

noncomputable def endW (T : Tbl) (ir : FnIR) : Rc → Rs (D × Heap)
  | .ok .nxt st => finishW T ir none st
  | .ok .ret st => finishW T ir none st
  | .pan d st => finishW T ir (some d) st
  | _ => .no

/-- A function's body, its deferred calls, its results. -/
noncomputable def FnW (T : Tbl) (ir : FnIR) (ds : List D) (H : Heap) : Rs (D × Heap) :=
  match ir.rcv with
  | some _ => .no
  | none => endW T ir (RunW T ir.body ⟨argEnv 0 ds, H, []⟩)

theorem finishW_le (n : Nat) (ir : FnIR) (m : Option D) (st : St) : (finish (fun g => T.fn g 0) (cxN T n) n ir m st).le (finishW T ir m st) := by
  unfold finish finishW
  rcases runDfsW_le (T := T) n st.df m st.h with e | e
  · rw [e]; exact .inl rfl
  · rw [e]; exact .inr rfl

theorem FnW_le (n : Nat) (ir : FnIR) (ds : List D) (H : Heap) : (runFn (fun g => T.fn g 0) (cxN T n) n ir ds H).le (FnW T ir ds H) := by
  unfold runFn FnW
  cases ir.rcv with
  | some _ => exact .inl rfl
  | none =>
    simp only
    rcases run_W (T := T) n ir.body ⟨argEnv 0 ds, H, []⟩ with e | e
    · rw [e]; exact .inl rfl
    · rw [e]
      cases run (cxN T n) n ir.body ⟨argEnv 0 ds, H, []⟩ with
      | ok x st => cases x <;> first | exact finishW_le n ir _ st | exact .inl rfl
      | pan => exact finishW_le n ir _ _
      | no => exact .inl rfl

theorem FnW_with (ir : FnIR) (ds : List D) (H : Heap) : ∃ n, ∀ m, n ≤ m → runFn (fun g => T.fn g 0) (cxN T m) m ir ds H = FnW T ir ds H := by
  unfold runFn FnW
  cases ir.rcv with
  | some _ => exact ⟨0, fun _ _ => rfl⟩
  | none =>
    simp only
    obtain ⟨n, hn⟩ := runW_with (T := T) ir.body ⟨argEnv 0 ds, H, []⟩
    have fin : ∀ (x : Option D) (st : St), ∃ n, ∀ m, n ≤ m → finish (fun g => T.fn g 0) (cxN T m) m ir x st = finishW T ir x st := by
      intro x st
      obtain ⟨k, hk⟩ := runDfsW_with (T := T) st.df x st.h
      exact ⟨k, fun m hm => by
        unfold finish finishW
        rw [hk m hm]
        cases runDfsW T st.df x st.h with
        | ok p => obtain ⟨a, b⟩ := p; cases a <;> rfl
        | _ => rfl⟩
    cases hr : RunW T ir.body ⟨argEnv 0 ds, H, []⟩ with
    | ok x st =>
      obtain ⟨k, hk⟩ := fin none st
      refine ⟨max n k, fun m hm => ?_⟩
      rw [hn m (by omega), hr]
      cases x <;> first | exact hk m (by omega) | rfl
    | pan d st =>
      obtain ⟨k, hk⟩ := fin (some d) st
      refine ⟨max n k, fun m hm => ?_⟩
      rw [hn m (by omega), hr]
      exact hk m (by omega)
    | no => exact ⟨n, fun m hm => by rw [hn m hm, hr]; rfl⟩

theorem PC_fn {f k : Nat} {ds : List D} {ir : FnIR} (hx : T.ex f ds = none) (hf : T.fn f k = some ir) : PC T f k ds = pureOf (FnW T ir ds []) := by
  have key : ∀ n, callP T (n + 1) f k ds = pureOf (runFn (fun g => T.fn g 0) (cxN T n) n ir ds []) := fun n => by
    rw [callP_succ, hx]
    simp only [hf]
  refine limS_fix (fun n => ?_) ?_
  · cases n with
    | zero => exact .inl (by simp [callP])
    | succ n =>
      rw [key]
      rcases FnW_le (T := T) n ir ds [] with e | e
      · rw [e]; exact .inl rfl
      · rw [e]; exact .inr rfl
  · obtain ⟨n, hn⟩ := FnW_with (T := T) ir ds []
    exact .inr ⟨n + 1, by rw [key, hn n (Nat.le_refl n)]⟩

theorem LC_fn {f k : Nat} {ds : List D} {H : Heap} {ir : FnIR} (hx : T.el f ds H = none) (hf : T.fn f k = some ir) : LC T f k ds H = FnW T ir ds H := by
  have key : ∀ n, callL T (n + 1) f k ds H = runFn (fun g => T.fn g 0) (cxN T n) n ir ds H := fun n => by
    rw [callL_succ, hx]
    simp only [hf]
  refine limS_fix (fun n => ?_) ?_
  · cases n with
    | zero => exact .inl (by simp [callL])
    | succ n => rw [key]; exact FnW_le n ir ds H
  · obtain ⟨n, hn⟩ := FnW_with (T := T) ir ds H
    exact .inr ⟨n + 1, by rw [key, hn n (Nat.le_refl n)]⟩

end Go.Mini
