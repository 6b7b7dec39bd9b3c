/- The evaluator: conversions of integers and texts. -/
import Derived.Test.YtkjgmakaidfgaaaGreatDoorEvp
namespace Go.Proofs.YtkjgmakaidfgaaaGreatDoor
open Go.RowKit

section
variable {P : Program} {Ty : Tr TypeInfo} {w : World}
theorem conv_int (K : TyOk P Ty) {s d : TypeId} {ds : TypeDesc} {k j : IntKind} {n : Int} (hs : undE Ty s = some ds) (hd : undE Ty d = some (.int k)) :
    (convert s d (.int j n)).run P w = .ok (.int k (k.wrap n)) w := by
  unfold convert
  simp only [Sem.run_bind, K.undRun hs, K.undRun hd, Result.andThen_ok, Conv.intToInt, Sem.run_pure]
theorem conv_text (K : TyOk P Ty) {s d : TypeId} {ds : TypeDesc} {t : ByteArray} (hs : undE Ty s = some ds) (hd : undE Ty d = some .string) :
    (convert s d (.string t)).run P w = .ok (.string t) w := by
  unfold convert
  simp only [Sem.run_bind, K.undRun hs, K.undRun hd, Result.andThen_ok, Sem.run_pure]
end
end Go.Proofs.YtkjgmakaidfgaaaGreatDoor
