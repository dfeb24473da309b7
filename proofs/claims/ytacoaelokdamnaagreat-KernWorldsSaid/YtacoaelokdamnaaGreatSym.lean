/- Rules by which a piece of code is run over values that are not written out. -/
import Derived.Test.YtacoaelokdamnaaGreatDen
set_option linter.all false
set_option linter.unusedSimpArgs false
set_option linter.unusedVariables false
namespace Go.Mini

variable {T : Tbl}

theorem nbeq (a b : Nat) : Nat.beq a b = (a == b) := by
  rw [Bool.eq_iff_iff]
  simp
theorem nble (a b : Nat) : Nat.ble a b = decide (a ≤ b) := by
  rw [Bool.eq_iff_iff]
  simp

/-! ### Temporaries -/
theorem look_nil (t : Nat) : look t [] = none := rfl
theorem look_cons (t u : Nat) (d : D) (r : Env) : look t ((u, d) :: r) = bif t == u then some d else look t r := by
  simp only [look]
  by_cases h : t = u
  · subst h; simp
  · have h1 : Nat.beq t u = false := by
      cases hb : Nat.beq t u with
      | false => rfl
      | true => exact absurd (Nat.eq_of_beq_eq_true hb) h
    have h2 : (t == u) = false := by simpa using h
    rw [h1, h2]
    rfl

/-! ### Operations of a region -/
/-- How a region goes on behind one operation. -/
def contI (cx : Cx) (dst : Option Nat) (r : List Ins) (E : Env) (x : Rs (D × Heap)) : Ri :=
  match x with
  | .ok (d, H') => runIns cx r (putD dst d E) H'
  | .pan d H' => .pan d E H'
  | .no => .no
theorem contI_ok (cx : Cx) (dst : Option Nat) (r : List Ins) (E : Env) (d : D) (H : Heap) : contI cx dst r E (.ok (d, H)) = runIns cx r (putD dst d E) H := rfl
theorem contI_pan (cx : Cx) (dst : Option Nat) (r : List Ins) (E : Env) (d : D) (H : Heap) : contI cx dst r E (.pan d H) = .pan d E H := rfl
theorem contI_no (cx : Cx) (dst : Option Nat) (r : List Ins) (E : Env) : contI cx dst r E .no = .no := rfl
theorem contI_ite (cx : Cx) (dst : Option Nat) (r : List Ins) (E : Env) (c : Prop) [Decidable c] (x y : Rs (D × Heap)) : contI cx dst r E (if c then x else y) = if c then contI cx dst r E x else contI cx dst r E y := by
  split <;> rfl

/-- One operation with a guard. -/
def guardI (cx : Cx) (w : Option Bool) (i : Ins) (r : List Ins) (E : Env) (H : Heap) : Ri :=
  match w with
  | none => .no
  | some false => runIns cx r (putD i.dst (.tup []) E) H
  | some true => contI cx i.dst r E (iev cx i.op E H)
theorem guardI_false (cx : Cx) (i : Ins) (r : List Ins) (E : Env) (H : Heap) : guardI cx (some false) i r E H = runIns cx r (putD i.dst (.tup []) E) H := rfl
theorem guardI_true (cx : Cx) (i : Ins) (r : List Ins) (E : Env) (H : Heap) : guardI cx (some true) i r E H = contI cx i.dst r E (iev cx i.op E H) := rfl
theorem guardI_some (cx : Cx) (b : Bool) (i : Ins) (r : List Ins) (E : Env) (H : Heap) :
    guardI cx (some b) i r E H = if b = true then contI cx i.dst r E (iev cx i.op E H) else runIns cx r (putD i.dst (.tup []) E) H := by
  cases b <;> rfl

theorem runIns_nil (cx : Cx) (E : Env) (H : Heap) : runIns cx [] E H = .ok E H := rfl
theorem runIns_go (cx : Cx) (dst : Option Nat) (op : IOp) (r : List Ins) (E : Env) (H : Heap) : runIns cx (⟨dst, none, op⟩ :: r) E H = contI cx dst r E (iev cx op E H) := by
  simp only [runIns, wants]
  unfold contI
  cases iev cx op E H <;> rfl
theorem runIns_guard (cx : Cx) (dst : Option Nat) (t : Nat) (b : Bool) (op : IOp) (r : List Ins) (E : Env) (H : Heap) :
    runIns cx (⟨dst, some (t, b), op⟩ :: r) E H = guardI cx (wants (some (t, b)) E) ⟨dst, some (t, b), op⟩ r E H := by
  simp only [runIns]
  unfold guardI contI
  cases wants (some (t, b)) E with
  | none => rfl
  | some c => cases c <;> (first | rfl | (simp only; cases iev cx op E H <;> rfl))

/-- A guard's word. -/
def wantsD (b : Bool) : Option D → Option Bool
  | none => none
  | some (.s (.bool c)) => some (c == b)
  | some _ => some false
theorem wants_some (t : Nat) (b : Bool) (E : Env) : wants (some (t, b)) E = wantsD b (look t E) := by
  simp only [wants, wantsD]
  cases look t E with
  | none => rfl
  | some d => cases d <;> first | rfl | (rename_i v; cases v <;> rfl)
theorem wantsD_bool (b c : Bool) : wantsD b (some (.s (.bool c))) = some (c == b) := rfl
theorem wantsD_t (c : Bool) : wantsD true (some (.s (.bool c))) = some c := by cases c <;> rfl
theorem wantsD_f (c : Bool) : wantsD false (some (.s (.bool c))) = some (!c) := by cases c <;> rfl
theorem wantsD_undef (b : Bool) : wantsD b (some (.tup [])) = some false := rfl

theorem afterI_ok (keep : List Nat) (df : List Dfd) (E : Env) (H : Heap) : afterI keep df (.ok E H) = .ok .nxt ⟨keepE keep E, H, df⟩ := rfl
theorem afterI_pan (keep : List Nat) (df : List Dfd) (d : D) (E : Env) (H : Heap) : afterI keep df (.pan d E H) = .pan d ⟨E, H, df⟩ := rfl
theorem afterI_no (keep : List Nat) (df : List Dfd) : afterI keep df .no = .no := rfl
theorem afterI_ite (keep : List Nat) (df : List Dfd) (c : Prop) [Decidable c] (a b : Ri) : afterI keep df (if c then a else b) = if c then afterI keep df a else afterI keep df b := by
  split <;> rfl

/-! ### Ends -/
theorem pureOf_ok (d : D) (H : Heap) : pureOf (.ok (d, H)) = match fz false H 24 d with | some r => .ok (canon r) | none => .no := rfl
theorem pureOf_pan (d : D) (H : Heap) : pureOf (.pan d H) = match fz false H 24 d with | some r => .pan (canon r) [] | none => .no := rfl
theorem pureOf_ite (c : Prop) [Decidable c] (a b : Rs (D × Heap)) : pureOf (if c then a else b) = if c then pureOf a else pureOf b := by
  split <;> rfl
/-- How a function ends whose results are these. -/
noncomputable def endR (T : Tbl) (res : List ResD) (r : Rc) : Rs (D × Heap) := endW T ⟨0, .skip, res, none⟩ r
theorem endR_ite (res : List ResD) (c : Prop) [Decidable c] (a b : Rc) : endR T res (if c then a else b) = if c then endR T res a else endR T res b := by
  split <;> rfl

/-- A function without deferred calls: its results. -/
def resW (H : Heap) (d : Option D) : Rs (D × Heap) :=
  match d with
  | some d => .ok (d, H)
  | none => .no
theorem resW_some (H : Heap) (d : D) : resW H (some d) = .ok (d, H) := rfl
theorem endR_ret (res : List ResD) (E : Env) (H : Heap) : endR T res (.ok .ret ⟨E, H, []⟩) = resW H (resVal E H res) := by
  simp only [endR, endW, finishW, runDfsW, resW]
  cases resVal E H res <;> rfl
theorem endR_nxt (res : List ResD) (E : Env) (H : Heap) : endR T res (.ok .nxt ⟨E, H, []⟩) = resW H (resVal E H res) := by
  simp only [endR, endW, finishW, runDfsW, resW]
  cases resVal E H res <;> rfl
theorem endR_pan (res : List ResD) (d : D) (E : Env) (H : Heap) : endR T res (.pan d ⟨E, H, []⟩) = .pan d H := by
  simp only [endR, endW, finishW, runDfsW]

theorem FnW_mk (nt : Nat) (body : IR) (res : List ResD) (ds : List D) (H : Heap) : FnW T ⟨nt, body, res, none⟩ ds H = endR T res (RunW T body ⟨argEnv 0 ds, H, []⟩) := by
  unfold FnW endR
  simp only
  cases RunW T body ⟨argEnv 0 ds, H, []⟩ with
  | ok x st => cases x <;> rfl
  | pan d st => rfl
  | no => rfl

/-! ### Calls -/
/-- A pure call's answer, in a heap. -/
def inH (H : Heap) (bo : Bool) (r : Rs D) : Rs (D × Heap) :=
  match r with
  | .ok d => match !bo || nobor d with
    | true => .ok (d, H)
    | false => .no
  | .pan d _ => match !bo || nobor d with
    | true => .pan d H
    | false => .no
  | .no => .no
theorem callD_live (f k : Nat) (ds : List D) (H : Heap) : callD (cxW T) true f k ds H = LC T f k ds H := rfl
theorem callD_pureW {f k : Nat} {ds : List D} {H : Heap} : callD (cxW T) false f k ds H = match fzArgs H ds with | none => .no | some (es, bo) => inH H bo (PC T f k (canons es)) := by
  simp only [callD, inH]
  cases fzArgs H ds with
  | none => rfl
  | some p => rfl
theorem callD_fz {f k : Nat} {ds : List D} {H : Heap} (h : isFzs ds = true) : callD (cxW T) false f k ds H = inH H false (PC T f k (canons ds)) := by
  rw [callD_pureW, fzArgs, h]
theorem inH_ok (H : Heap) (d : D) : inH H false (.ok d) = .ok (d, H) := rfl
theorem inH_okT (H : Heap) (d : D) (h : nobor d = true) : inH H true (.ok d) = .ok (d, H) := by simp [inH, h]
theorem inH_pan (H : Heap) (d : D) (H' : Heap) : inH H false (.pan d H') = .pan d H := rfl
theorem inH_ite (H : Heap) (bo : Bool) (c : Prop) [Decidable c] (a b : Rs D) : inH H bo (if c then a else b) = if c then inH H bo a else inH H bo b := by
  split <;> rfl

/-! ### Values that are known whole -/
theorem isFzs_map {α : Type} {f : α → D} (h : ∀ x, isFz (f x) = true) : ∀ (l : List α), isFzs (l.map f) = true
  | [] => rfl
  | x :: l => by simp only [List.map_cons, isFzs, h x, isFzs_map h l, Bool.and_self]
theorem nobors_map {α : Type} {f : α → D} (h : ∀ x, nobor (f x) = true) : ∀ (l : List α), nobors (l.map f) = true
  | [] => rfl
  | x :: l => by simp only [List.map_cons, nobors, h x, nobors_map h l, Bool.and_self]
theorem toKs_map {α : Type} {k : LK} {f g : α → D} (h : ∀ x, toK k (f x) = g x) : ∀ (l : List α), toKs k (l.map f) = l.map g
  | [] => rfl
  | x :: l => by simp only [List.map_cons, toKs, h x, toKs_map h l]

mutual
def depth : D → Nat
  | .agg xs => depths xs + 1
  | .tup xs => depths xs + 1
  | .fn _ a c => depths a + depths c + 1
  | .ifc _ x => depth x + 1
  | _ => 1
def depths : List D → Nat
  | [] => 0
  | d :: ds => depth d + depths ds
end

mutual
theorem fz_of (bo : Bool) (H : Heap) : ∀ (d : D), isFz d = true → ∀ (n : Nat), depth d ≤ n → fz bo H n d = some d
  | .s v, _, n, hn => by cases n <;> simp_all [depth, fz]
  | .unk u p, _, n, hn => by cases n <;> simp_all [depth, fz]
  | .lit k xs, _, n, hn => by cases n <;> simp_all [depth, fz]
  | .rp b x o, _, n, hn => by cases n <;> simp_all [depth, fz]
  | .agg xs, h, n, hn => by
    simp only [isFz] at h
    simp only [depth] at hn
    obtain ⟨m, rfl⟩ : ∃ m, n = m + 1 := ⟨n - 1, by omega⟩
    simp only [fz, optMap_of bo H xs h m (by omega)]
  | .tup xs, h, n, hn => by
    simp only [isFz] at h
    simp only [depth] at hn
    obtain ⟨m, rfl⟩ : ∃ m, n = m + 1 := ⟨n - 1, by omega⟩
    simp only [fz, optMap_of bo H xs h m (by omega)]
  | .fn f a c, h, n, hn => by
    simp only [isFz, Bool.and_eq_true] at h
    simp only [depth] at hn
    obtain ⟨m, rfl⟩ : ∃ m, n = m + 1 := ⟨n - 1, by omega⟩
    simp only [fz, optMap_of bo H a h.1 m (by omega), optMap_of bo H c h.2 m (by omega)]
  | .ifc t x, h, n, hn => by
    simp only [isFz] at h
    simp only [depth] at hn
    obtain ⟨m, rfl⟩ : ∃ m, n = m + 1 := ⟨n - 1, by omega⟩
    simp only [fz, fz_of bo H x h m (by omega)]
  | .sl .., h, _, _ => by simp [isFz] at h
  | .ptr .., h, _, _ => by simp [isFz] at h
  | .mp _, h, _, _ => by simp [isFz] at h
theorem optMap_of (bo : Bool) (H : Heap) : ∀ (ds : List D), isFzs ds = true → ∀ (n : Nat), depths ds ≤ n → optMap (fz bo H n) ds = some ds
  | [], _, _, _ => rfl
  | d :: ds, h, n, hn => by
    simp only [isFzs, Bool.and_eq_true] at h
    simp only [depths] at hn
    simp only [optMap, fz_of bo H d h.1 n (by omega), optMap_of bo H ds h.2 n (by omega)]
end

end Go.Mini
