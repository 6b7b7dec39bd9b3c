/- The closed run that the laws end with: it answers true. -/
import Derived.Test.YtnjmdljnmnpecaaGreatDoorLaw
namespace Go.Proofs.YtnjmdljnmnpecaaGreatDoor
open Go.RowKit

theorem known_run : okR (runS.fn 5 [] hE) true = true := by kernel_rfl
theorem known_calls (w : World) : Calls Tryz.prog 5 #[] w fun en w' => en = .returned (.bool true) ∧ Below w.heap.size w w' := by
  obtain ⟨h', hv⟩ := okR_some known_run
  exact (from_nothing (xs := []) runS_ok trivial hv trivial e0 w).2
end Go.Proofs.YtnjmdljnmnpecaaGreatDoor
