/- The deferred functions that ask whether somebody panics. -/
import Derived.Test.YtlfljoeafpimpaaGreatDoorNob
import Derived.Test.YtlfljoeafpimpaaGreatDoorOrd
namespace Go.Proofs.YtlfljoeafpimpaaGreatDoor
open Go.RowKit
theorem noop711 : NoopD Tryz.prog 711 := noop_of (t1 := _) Tryz.func711 rfl rfl (by decide) (by decide) (by kernel_rfl) (fun W => by kernel_rfl)
theorem noop633 : NoopD Tryz.prog 633 := noop_of (t1 := _) Tryz.func633 rfl rfl (by decide) (by decide) (by kernel_rfl) (fun W => by kernel_rfl)
theorem noop784 : NoopD Tryz.prog 784 := noop_of (t1 := _) Tryz.func784 rfl rfl (by decide) (by decide) (by kernel_rfl) (fun W => by kernel_rfl)
theorem noop779 : NoopD Tryz.prog 779 := noop_of (t1 := _) Tryz.func779 rfl rfl (by decide) (by decide) (by kernel_rfl) (fun W => by kernel_rfl)
theorem noop773 : NoopD Tryz.prog 773 := noop_of (t1 := _) Tryz.func773 rfl rfl (by decide) (by decide) (by kernel_rfl) (fun W => by kernel_rfl)
theorem noop728 : NoopD Tryz.prog 728 := noop_of (t1 := _) Tryz.func728 rfl rfl (by decide) (by decide) (by kernel_rfl) (fun W => by kernel_rfl)
theorem noop707 : NoopD Tryz.prog 707 := noop_of (t1 := _) Tryz.func707 rfl rfl (by decide) (by decide) (by kernel_rfl) (fun W => by kernel_rfl)
theorem noop617 : NoopD Tryz.prog 617 := noop_of (t1 := _) Tryz.func617 rfl rfl (by decide) (by decide) (by kernel_rfl) (fun W => by kernel_rfl)
theorem noopAll : ∀ g ∈ dnoL, NoopD Tryz.prog g := fun g hg => by
  simp only [dnoL, List.mem_cons, List.not_mem_nil, or_false] at hg
  rcases hg with rfl | rfl | rfl | rfl | rfl | rfl | rfl | rfl
  · exact noop711
  · exact noop633
  · exact noop784
  · exact noop779
  · exact noop773
  · exact noop728
  · exact noop707
  · exact noop617
end Go.Proofs.YtlfljoeafpimpaaGreatDoor
