/- Regions whose order is open: what is checked of them. -/
import Derived.Test.YtacoaelokdamnaaGreatSnd1
set_option linter.all false
set_option linter.unusedSimpArgs false
set_option linter.unusedVariables false
namespace Go.Mini

/-- 0: does not touch the heap; 1: reads it; 2: may change it, or may end in a panic; 3: makes a block of zeros. -/
def IOp.cls : IOp → Nat
  | .mov .. | .bxl .. | .pick .. | .build .. | .nck .. | .bin .. | .eqk .. | .un .. | .cvi .. | .fad .. | .ixa .. | .sls .. | .fld .. | .ext .. | .len .. | .sln .. | .mn .. | .mx .. | .mki .. | .mkf .. | .fof .. | .off .. | .idx .. | .ids .. | .tas .. | .flt .. | .bad => 0
  | .load .. | .slc .. | .sla .. | .cap .. | .s2s .. => 1
  | .bsl asLit .. => match asLit with | true => 0 | false => 2
  | .msl asLit .. => match asLit with | true => 0 | false => 2
  | .call live .. => match live with | true => 2 | false => 1
  | .clv live .. => match live with | true => 2 | false => 1
  | .alloc .. => 3
  | .box .. | .store .. | .app .. | .cpy .. | .pan .. | .clr .. | .nwc .. => 2

def IOp.isMov : IOp → Bool
  | .mov _ => true
  | _ => false

theorem rofV {H H' : Heap} {x : Option D} {d : D} (h : Rs.ofV H x = .ok (d, H')) : x = some d ∧ H' = H := by
  cases x with
  | none => cases h
  | some y => cases h; exact ⟨rfl, rfl⟩

theorem callD_pure {cx : Cx} {f k : Nat} {ds : List D} {H H' : Heap} {d : D} (h : callD cx false f k ds H = .ok (d, H')) : H' = H := by
  unfold callD at h
  simp only [] at h
  repeat' split at h
  all_goals first | (cases h; done) | (cases h; rfl)

/-- What does not change the heap. -/
theorem cls_heap {cx : Cx} {op : IOp} (hc : op.cls ≠ 2) (hc3 : op.cls ≠ 3) {E : Env} {H H' : Heap} {d : D} (h : iev cx op E H = .ok (d, H')) : H' = H := by
  cases op <;> simp only [IOp.cls] at hc hc3 <;> simp only [iev] at h
  case call live f k xs =>
    cases live
    · repeat' split at h
      all_goals first | (cases h; done) | exact callD_pure h
    · simp at hc
  case clv live x xs =>
    cases live
    · repeat' split at h
      all_goals first | (cases h; done) | exact callD_pure h
    · simp at hc
  case bsl asLit e ag zs len ps =>
    cases asLit
    · simp at hc
    · repeat' split at h
      all_goals first | (cases h; done) | (cases h; rfl) | (simp_all; done)
  case msl asLit n c e bytes ag zs =>
    cases asLit
    · simp at hc
    · repeat' split at h
      all_goals first | (cases h; done) | (cases h; rfl) | (simp_all; done)
  all_goals first
    | (exact absurd rfl hc; done)
    | (exact absurd rfl hc3; done)
    | (exact (rofV h).2; done)
    | (repeat' split at h
       all_goals first | (cases h; done) | (cases h; rfl) | (exact (rofV h).2))

/-- What does not look at the heap. -/
theorem cls_free {cx : Cx} {op : IOp} (hc : op.cls = 0) {E : Env} {H : Heap} {d : D} (h : iev cx op E H = .ok (d, H)) (H2 : Heap) : iev cx op E H2 = .ok (d, H2) := by
  have key : ∀ {x : Option D}, Rs.ofV H x = .ok (d, H) → Rs.ofV H2 x = .ok (d, H2) := fun {x} hx => by
    obtain ⟨rfl, _⟩ := rofV hx
    rfl
  cases op <;> simp only [IOp.cls] at hc <;> simp only [iev] at h ⊢
  case call live f k xs => cases live <;> simp at hc
  case clv live x xs => cases live <;> simp at hc
  case bsl asLit e ag zs len ps =>
    cases asLit
    · simp at hc
    · repeat' split at h
      all_goals first | (cases h; done) | (simp_all; done)
  case msl asLit n c e bytes ag zs =>
    cases asLit
    · simp at hc
    · repeat' split at h
      all_goals first | (cases h; done) | (simp_all; done)
  case mn x y =>
    split at h
    · cases h; rfl
    · cases h
  case mx x y =>
    split at h
    · cases h; rfl
    · cases h
  all_goals first
    | (exact absurd hc (by decide); done)
    | (exact key h; done)
    | (repeat' split at h
       all_goals first | (cases h; done) | (cases h; simp_all; done) | (simp_all; done) | exact key h)

end Go.Mini
