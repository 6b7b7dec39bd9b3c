/- The deferred functions that ask whether somebody panics. -/
import Derived.Test.YtheibpbkhimehaaGreatDoorNob
import Derived.Test.YtheibpbkhimehaaGreatDoorOrd
namespace Go.Proofs.YtheibpbkhimehaaGreatDoor
open Go.RowKit
theorem noop134 : NoopD Tryz.prog 134 := noop_of (t1 := _) Tryz.func134 rfl rfl (by decide) (by decide) (by kernel_rfl) (fun W => by kernel_rfl)
theorem noop146 : NoopD Tryz.prog 146 := noop_of (t1 := _) Tryz.func146 rfl rfl (by decide) (by decide) (by kernel_rfl) (fun W => by kernel_rfl)
theorem noop150 : NoopD Tryz.prog 150 := noop_of (t1 := _) Tryz.func150 rfl rfl (by decide) (by decide) (by kernel_rfl) (fun W => by kernel_rfl)
theorem noop167 : NoopD Tryz.prog 167 := noop_of (t1 := _) Tryz.func167 rfl rfl (by decide) (by decide) (by kernel_rfl) (fun W => by kernel_rfl)
theorem noop271 : NoopD Tryz.prog 271 := noop_of (t1 := _) Tryz.func271 rfl rfl (by decide) (by decide) (by kernel_rfl) (fun W => by kernel_rfl)
theorem noop277 : NoopD Tryz.prog 277 := noop_of (t1 := _) Tryz.func277 rfl rfl (by decide) (by decide) (by kernel_rfl) (fun W => by kernel_rfl)
theorem noop281 : NoopD Tryz.prog 281 := noop_of (t1 := _) Tryz.func281 rfl rfl (by decide) (by decide) (by kernel_rfl) (fun W => by kernel_rfl)
theorem noop73 : NoopD Tryz.prog 73 := noop_of (t1 := _) Tryz.func73 rfl rfl (by decide) (by decide) (by kernel_rfl) (fun W => by kernel_rfl)
theorem noopAll : ∀ g ∈ dnoL, NoopD Tryz.prog g := fun g hg => by
  simp only [dnoL, List.mem_cons, List.not_mem_nil, or_false] at hg
  rcases hg with rfl | rfl | rfl | rfl | rfl | rfl | rfl | rfl
  · exact noop134
  · exact noop146
  · exact noop150
  · exact noop167
  · exact noop271
  · exact noop277
  · exact noop281
  · exact noop73
end Go.Proofs.YtheibpbkhimehaaGreatDoor
