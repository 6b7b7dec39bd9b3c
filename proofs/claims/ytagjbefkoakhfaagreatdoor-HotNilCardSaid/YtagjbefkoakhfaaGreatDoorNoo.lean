/- The deferred functions that ask whether somebody panics. -/
import Derived.Test.YtagjbefkoakhfaaGreatDoorNob
import Derived.Test.YtagjbefkoakhfaaGreatDoorOrd
namespace Go.Proofs.YtagjbefkoakhfaaGreatDoor
open Go.RowKit
theorem noop162 : NoopD Tryz.prog 162 := noop_of (t1 := _) Tryz.func162 rfl rfl (by decide) (by decide) (by kernel_rfl) (fun W => by kernel_rfl)
theorem noop186 : NoopD Tryz.prog 186 := noop_of (t1 := _) Tryz.func186 rfl rfl (by decide) (by decide) (by kernel_rfl) (fun W => by kernel_rfl)
theorem noop190 : NoopD Tryz.prog 190 := noop_of (t1 := _) Tryz.func190 rfl rfl (by decide) (by decide) (by kernel_rfl) (fun W => by kernel_rfl)
theorem noop206 : NoopD Tryz.prog 206 := noop_of (t1 := _) Tryz.func206 rfl rfl (by decide) (by decide) (by kernel_rfl) (fun W => by kernel_rfl)
theorem noop323 : NoopD Tryz.prog 323 := noop_of (t1 := _) Tryz.func323 rfl rfl (by decide) (by decide) (by kernel_rfl) (fun W => by kernel_rfl)
theorem noop329 : NoopD Tryz.prog 329 := noop_of (t1 := _) Tryz.func329 rfl rfl (by decide) (by decide) (by kernel_rfl) (fun W => by kernel_rfl)
theorem noop333 : NoopD Tryz.prog 333 := noop_of (t1 := _) Tryz.func333 rfl rfl (by decide) (by decide) (by kernel_rfl) (fun W => by kernel_rfl)
theorem noop105 : NoopD Tryz.prog 105 := noop_of (t1 := _) Tryz.func105 rfl rfl (by decide) (by decide) (by kernel_rfl) (fun W => by kernel_rfl)
theorem noopAll : ∀ g ∈ dnoL, NoopD Tryz.prog g := fun g hg => by
  simp only [dnoL, List.mem_cons, List.not_mem_nil, or_false] at hg
  rcases hg with rfl | rfl | rfl | rfl | rfl | rfl | rfl | rfl
  · exact noop162
  · exact noop186
  · exact noop190
  · exact noop206
  · exact noop323
  · exact noop329
  · exact noop333
  · exact noop105
end Go.Proofs.YtagjbefkoakhfaaGreatDoor
