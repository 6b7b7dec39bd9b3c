/- The evaluator with its oracles: each call keeps the contract. -/
import Derived.Test.YtlfljoeafpimpaaGreatDoorRun
import Derived.Test.YtlfljoeafpimpaaGreatDoorSrk
namespace Go.Proofs.YtlfljoeafpimpaaGreatDoor
open Go.RowKit

theorem get_set_or {α : Type} {T : Tr α} {i f : Nat} {a g : α} (hi : i < 2 ^ 10) (h : Tr.get 10 (Tr.set 10 T i (.leaf a)) f = some g) : (f = i ∧ g = a) ∨ Tr.get 10 T f = some g := by
  by_cases hif : i = f
  · subst hif
    rw [Tr.get_set_same 10 T i a hi] at h
    injection h with h
    exact .inl ⟨rfl, h.symm⟩
  · rw [Tr.get_set_other 10 T i f _ hi hif] at h
    exact .inr h
theorem orcOk (f : FuncId) (g : OrcE) (h : Tr.get 10 orcS f = some g) (B : Nat → Prop) (w0 : World) : OrcOk Tryz.prog B w0 f g := by
  unfold orcS at h
  rcases get_set_or (by decide) h with ⟨rfl, rfl⟩ | h
  · exact sortO_ok (fun f hf => by
      rw [hasN_eq, List.contains_iff_mem] at hf
      exact hf) B w0
  rcases get_set_or (by decide) h with ⟨rfl, rfl⟩ | h
  · exact syncO_ok B w0
  rcases get_set_or (by decide) h with ⟨rfl, rfl⟩ | h
  · exact purO_ok run0_ok pur876_ok B w0
  rcases get_set_or (by decide) h with ⟨rfl, rfl⟩ | h
  · exact purO_ok run0_ok pur242_ok B w0
  rcases get_set_or (by decide) h with ⟨rfl, rfl⟩ | h
  · exact purO_ok run0_ok pur430_ok B w0
  rcases get_set_or (by decide) h with ⟨rfl, rfl⟩ | h
  · exact purO_ok run0_ok pur431_ok B w0
  rcases get_set_or (by decide) h with ⟨rfl, rfl⟩ | h
  · exact takeO_ok B w0 ⟨Tryz.f432, Tryz.func432, by kernel_rfl, by kernel_rfl⟩
  · rw [Tr.get_nil] at h; cases h
theorem runS_ok : CallOk Tryz.prog runS := evCall_run tyOk ptOk fnOk orcOk (fun _ hc => snd tyOk hc) follows dnoOk flatOk 40
theorem okR_some {r : Option (RV × Hp)} {b : Bool} (h : okR r b = true) : ∃ h', r = some (.lit (.bool b), h') := by
  unfold okR at h
  split at h
  · rename_i c h'
    exact ⟨h', by rw [beq_iff_eq.1 h]⟩
  · cases h
end Go.Proofs.YtlfljoeafpimpaaGreatDoor
