/- The walk of the document's MaySetup. -/
import Derived.Test.YtgplaeopcejmoaaGreatDoorByte
namespace Go.Proofs.YtgplaeopcejmoaaGreatDoor
open Go.RowKit

structure Sup where
  nodes : Int
  capacity : Int
  frames : Int
  quorum : Int
  delay : Int
def supCells (s : Sup) : List Value := [.int .i64 s.nodes, .int .i64 s.capacity, .int .i64 s.frames, .int .i64 s.quorum, .int .i64 s.delay]
def supV (s : Sup) : Value := .agg (supCells s).toArray
/-- may a setup be? -/
def maySet (s : Sup) : Bool := decide (2 ≤ s.nodes ∧ s.nodes ≤ 5 ∧ 1 ≤ s.capacity ∧ s.capacity ≤ 1048576 ∧ 4 ≤ s.frames ∧ s.frames ≤ 128 ∧ 0 ≤ s.quorum ∧ s.quorum < s.nodes ∧ 0 ≤ s.delay ∧ s.delay ≤ 100)
set_option maxRecDepth 100000 in
set_option maxHeartbeats 2000000 in
theorem refmayset_any (s : Sup) (w : World) : Calls Tryz.prog 38 #[supV s] w fun e w' => e = .returned (.bool (maySet s)) ∧ Below w.heap.size w w' := by
  have hB := Blk.new w 60 (supCells s)
  have hb : Below w.heap.size w (w.alloc (.cells (supCells s).toArray 60)) := (Below.refl _ w).alloc (Nat.le_refl _) _
  obtain ⟨nodes, capacity, frames, quorum, delay⟩ := s
  simp only [supCells, supV] at *
  have c0 := hB.cell 0; have c1 := hB.cell 1; have c2 := hB.cell 2; have c3 := hB.cell 3; have c4 := hB.cell 4
  clear hB
  go_enter Tryz.func38, Tryz.ntmps38
  go_wp2
  all_goals
    go_ret
    refine ⟨ret_bool ?_, hb⟩
    unfold maySet
    rw [Bool.eq_iff_iff]
    simp
    try omega
end Go.Proofs.YtgplaeopcejmoaaGreatDoor
