/- Oracles of the evaluator: a disk's Sync, by its loop over a map. -/
import Derived.Test.YtlfljoeafpimpaaGreatDoorMlr
import Derived.Test.YtlfljoeafpimpaaGreatDoorKno
namespace Go.Proofs.YtlfljoeafpimpaaGreatDoor
open Go.RowKit

noncomputable def syncO : OrcE := runX TyL dnoS run0S 5000 [] [3, 14, 15, 16, 17, 18, 19, 20, 21, 22, 23, 24, 25] Tryz.f336
theorem syncO_ok (B : Nat → Prop) (w0 : World) : OrcOk Tryz.prog B w0 336 syncO := fun xs e h v h' w r hl hv =>
  ⟨⟨Tryz.f336, Tryz.func336, by kernel_rfl, by kernel_rfl⟩,
    runX_run tyOk (snd tyOk run0_ok) run0_ok follows dnoOk _ Tryz.func336 r hl hv⟩
end Go.Proofs.YtlfljoeafpimpaaGreatDoor
