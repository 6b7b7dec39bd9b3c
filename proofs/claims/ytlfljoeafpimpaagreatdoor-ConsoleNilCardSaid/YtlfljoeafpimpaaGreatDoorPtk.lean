/- The plans of the drawn regions are held against the code, a dozen at a time. -/
import Derived.Test.YtlfljoeafpimpaaGreatDoorEwh
import Derived.Test.YtlfljoeafpimpaaGreatDoorTab
import Derived.KernelRfl
namespace Go.Proofs.YtlfljoeafpimpaaGreatDoor
open Go.RowKit
noncomputable def chkF (x : Nat × PlT) : Bool := match Tr.get 10 FnL x.1 with
  | some fn => match fn.body with
    | some c => chkC TyL x.2 c
    | none => true
  | none => true
noncomputable def chkAll (l : List (Nat × PlT)) : Bool := List.rec (motive := fun _ => Bool) true (fun x _ ih => chkF x && ih) l
theorem chkAll_mem : ∀ {l : List (Nat × PlT)}, chkAll l = true → ∀ x ∈ l, chkF x = true
  | [], _, x, hx => by cases hx
  | y :: l, h, x, hx => by
    have h1 : (chkF y && chkAll l) = true := h
    rw [Bool.and_eq_true] at h1
    rcases List.mem_cons.1 hx with rfl | hx
    · exact h1.1
    · exact chkAll_mem h1.2 x hx
theorem ptc0 : chkAll PtE0 = true := by kernel_rfl
theorem ptc1 : chkAll PtE1 = true := by kernel_rfl
theorem ptc2 : chkAll PtE2 = true := by kernel_rfl
theorem ptc3 : chkAll PtE3 = true := by kernel_rfl
theorem ptc4 : chkAll PtE4 = true := by kernel_rfl
theorem ptc5 : chkAll PtE5 = true := by kernel_rfl
theorem ptc6 : chkAll PtE6 = true := by kernel_rfl
theorem ptc7 : chkAll PtE7 = true := by kernel_rfl
theorem ptc8 : chkAll PtE8 = true := by kernel_rfl
theorem pt_chk : ∀ l ∈ PtEs, chkAll l = true := fun l hl => by
  simp only [PtEs, List.mem_cons, List.not_mem_nil, or_false] at hl
  rcases hl with rfl | rfl | rfl | rfl | rfl | rfl | rfl | rfl | rfl
  · exact ptc0
  · exact ptc1
  · exact ptc2
  · exact ptc3
  · exact ptc4
  · exact ptc5
  · exact ptc6
  · exact ptc7
  · exact ptc8
end Go.Proofs.YtlfljoeafpimpaaGreatDoor
