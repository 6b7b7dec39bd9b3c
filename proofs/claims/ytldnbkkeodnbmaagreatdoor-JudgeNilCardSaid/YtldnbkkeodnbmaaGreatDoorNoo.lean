/- The deferred functions that ask whether somebody panics. -/
import Derived.Test.YtldnbkkeodnbmaaGreatDoorNob
import Derived.Test.YtldnbkkeodnbmaaGreatDoorOrd
namespace Go.Proofs.YtldnbkkeodnbmaaGreatDoor
open Go.RowKit
theorem noop238 : NoopD Tryz.prog 238 := noop_of (t1 := _) Tryz.func238 rfl rfl (by decide) (by decide) (by kernel_rfl) (fun W => by kernel_rfl)
theorem noopAll : ∀ g ∈ dnoL, NoopD Tryz.prog g := fun g hg => by
  simp only [dnoL, List.mem_cons, List.not_mem_nil, or_false] at hg
  rcases hg with rfl
  · exact noop238
end Go.Proofs.YtldnbkkeodnbmaaGreatDoor
