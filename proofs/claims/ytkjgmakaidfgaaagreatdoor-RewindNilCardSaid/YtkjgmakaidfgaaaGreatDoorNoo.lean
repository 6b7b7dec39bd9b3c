/- The deferred functions that ask whether somebody panics. -/
import Derived.Test.YtkjgmakaidfgaaaGreatDoorNob
import Derived.Test.YtkjgmakaidfgaaaGreatDoorOrd
namespace Go.Proofs.YtkjgmakaidfgaaaGreatDoor
open Go.RowKit
theorem noop90 : NoopD Tryz.prog 90 := noop_of (t1 := _) Tryz.func90 rfl rfl (by decide) (by decide) (by kernel_rfl) (fun W => by kernel_rfl)
theorem noopAll : ∀ g ∈ dnoL, NoopD Tryz.prog g := fun g hg => by
  simp only [dnoL, List.mem_cons, List.not_mem_nil, or_false] at hg
  rcases hg with rfl
  · exact noop90
end Go.Proofs.YtkjgmakaidfgaaaGreatDoor
