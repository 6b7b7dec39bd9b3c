/- The deferred functions that ask whether somebody panics. -/
import Derived.Test.YtcckdckhhkmcgaaGreatDoorNob
import Derived.Test.YtcckdckhhkmcgaaGreatDoorOrd
namespace Go.Proofs.YtcckdckhhkmcgaaGreatDoor
open Go.RowKit
theorem noop555 : NoopD Tryz.prog 555 := noop_of (t1 := _) Tryz.func555 rfl rfl (by decide) (by decide) (by kernel_rfl) (fun W => by kernel_rfl)
theorem noop451 : NoopD Tryz.prog 451 := noop_of (t1 := _) Tryz.func451 rfl rfl (by decide) (by decide) (by kernel_rfl) (fun W => by kernel_rfl)
theorem noop644 : NoopD Tryz.prog 644 := noop_of (t1 := _) Tryz.func644 rfl rfl (by decide) (by decide) (by kernel_rfl) (fun W => by kernel_rfl)
theorem noop639 : NoopD Tryz.prog 639 := noop_of (t1 := _) Tryz.func639 rfl rfl (by decide) (by decide) (by kernel_rfl) (fun W => by kernel_rfl)
theorem noop633 : NoopD Tryz.prog 633 := noop_of (t1 := _) Tryz.func633 rfl rfl (by decide) (by decide) (by kernel_rfl) (fun W => by kernel_rfl)
theorem noop576 : NoopD Tryz.prog 576 := noop_of (t1 := _) Tryz.func576 rfl rfl (by decide) (by decide) (by kernel_rfl) (fun W => by kernel_rfl)
theorem noop551 : NoopD Tryz.prog 551 := noop_of (t1 := _) Tryz.func551 rfl rfl (by decide) (by decide) (by kernel_rfl) (fun W => by kernel_rfl)
theorem noop537 : NoopD Tryz.prog 537 := noop_of (t1 := _) Tryz.func537 rfl rfl (by decide) (by decide) (by kernel_rfl) (fun W => by kernel_rfl)
theorem noopAll : ∀ g ∈ dnoL, NoopD Tryz.prog g := fun g hg => by
  simp only [dnoL, List.mem_cons, List.not_mem_nil, or_false] at hg
  rcases hg with rfl | rfl | rfl | rfl | rfl | rfl | rfl | rfl
  · exact noop555
  · exact noop451
  · exact noop644
  · exact noop639
  · exact noop633
  · exact noop576
  · exact noop551
  · exact noop537
end Go.Proofs.YtcckdckhhkmcgaaGreatDoor
