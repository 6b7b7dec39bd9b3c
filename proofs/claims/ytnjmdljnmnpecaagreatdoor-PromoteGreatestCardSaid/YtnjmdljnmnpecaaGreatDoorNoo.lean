/- The deferred functions that ask whether somebody panics. -/
import Derived.Test.YtnjmdljnmnpecaaGreatDoorNob
import Derived.Test.YtnjmdljnmnpecaaGreatDoorOrd
namespace Go.Proofs.YtnjmdljnmnpecaaGreatDoor
open Go.RowKit
theorem noop112 : NoopD Tryz.prog 112 := noop_of (t1 := _) Tryz.func112 rfl rfl (by decide) (by decide) (by kernel_rfl) (fun W => by kernel_rfl)
theorem noopAll : ∀ g ∈ dnoL, NoopD Tryz.prog g := fun g hg => by
  simp only [dnoL, List.mem_cons, List.not_mem_nil, or_false] at hg
  rcases hg with rfl
  · exact noop112
end Go.Proofs.YtnjmdljnmnpecaaGreatDoor
