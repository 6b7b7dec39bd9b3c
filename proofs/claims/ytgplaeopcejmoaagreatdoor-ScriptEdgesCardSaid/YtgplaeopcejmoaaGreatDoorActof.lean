/- ActOf: what it hands back. -/
import Derived.Test.YtgplaeopcejmoaaGreatDoorActofc
import Derived.Test.YtgplaeopcejmoaaGreatDoorActofd
import Derived.Test.YtgplaeopcejmoaaGreatDoorActofe
import Derived.Test.YtgplaeopcejmoaaGreatDoorActoff
namespace Go.Proofs.YtgplaeopcejmoaaGreatDoor
open Go.RowKit Go.Shelf

theorem actofT_any (t : ByteArray) (ht : t.size ≤ 1000000) (w : World) (henv : Env w) :
    Calls Tryz.prog 25 #[.string t] w fun e w' => ActRes w w' (actOfT t) e ∧ Below w.heap.size w w' := by
  cases h : getI ofActL (kindOfA (hd (lineS t))) with
  | none => exact actofT_m0 t ht w henv h
  | some m =>
    rcases act_mask h with rfl | rfl | rfl | rfl | rfl | rfl | rfl
    · exact actofT_m9 t ht w henv h
    · exact actofT_m4 t ht w henv h
    · exact actofT_m1 t ht w henv h
    · exact actofT_m5 t ht w henv h
    · exact actofT_m17 t ht w henv h
    · exact actofT_m21 t ht w henv h
    · exact actofT_m3 t ht w henv h
end Go.Proofs.YtgplaeopcejmoaaGreatDoor
