/- The walk of the document's Name at an operation's number. -/
import Derived.Test.YtgplaeopcejmoaaDoorIter
import Derived.Deep.QuietTactic
namespace Go.Proofs.YtgplaeopcejmoaaDoor
open Go.RowKit

def nameR (x : Fin 12) (w : World) (e : Ending) (w' : World) : Prop := (∃ s, e = .returned (.tuple #[.string (nmAt x), .string s])) ∧ Below w.heap.size w w'
set_option maxRecDepth 100000 in
theorem refname_0 (w : World) : Calls Tryd.prog 31 #[.int .i64 1] w (nameR 0 w) := by
  have hB : Below w.heap.size w w := Below.refl _ _
  go_enter Tryd.func31, Tryd.ntmps31
  go_wp2
  go_quiet (fail)
  go_wp2
  go_ret2
  exact ⟨⟨_, rfl⟩, below_drewN ((hB.alloc (Nat.le_refl _) _).alloc (by simp) _) _⟩
set_option maxRecDepth 100000 in
theorem refname_1 (w : World) : Calls Tryd.prog 31 #[.int .i64 2] w (nameR 1 w) := by
  have hB : Below w.heap.size w w := Below.refl _ _
  go_enter Tryd.func31, Tryd.ntmps31
  go_wp2
  go_quiet (fail)
  go_wp2
  go_ret2
  exact ⟨⟨_, rfl⟩, below_drewN ((hB.alloc (Nat.le_refl _) _).alloc (by simp) _) _⟩
set_option maxRecDepth 100000 in
theorem refname_2 (w : World) : Calls Tryd.prog 31 #[.int .i64 3] w (nameR 2 w) := by
  have hB : Below w.heap.size w w := Below.refl _ _
  go_enter Tryd.func31, Tryd.ntmps31
  go_wp2
  go_quiet (fail)
  go_wp2
  go_ret2
  exact ⟨⟨_, rfl⟩, below_drewN ((hB.alloc (Nat.le_refl _) _).alloc (by simp) _) _⟩
set_option maxRecDepth 100000 in
theorem refname_3 (w : World) : Calls Tryd.prog 31 #[.int .i64 4] w (nameR 3 w) := by
  have hB : Below w.heap.size w w := Below.refl _ _
  go_enter Tryd.func31, Tryd.ntmps31
  go_wp2
  go_quiet (fail)
  go_wp2
  go_ret2
  exact ⟨⟨_, rfl⟩, below_drewN ((hB.alloc (Nat.le_refl _) _).alloc (by simp) _) _⟩
set_option maxRecDepth 100000 in
theorem refname_4 (w : World) : Calls Tryd.prog 31 #[.int .i64 5] w (nameR 4 w) := by
  have hB : Below w.heap.size w w := Below.refl _ _
  go_enter Tryd.func31, Tryd.ntmps31
  go_wp2
  go_quiet (fail)
  go_wp2
  go_ret2
  exact ⟨⟨_, rfl⟩, below_drewN ((hB.alloc (Nat.le_refl _) _).alloc (by simp) _) _⟩
set_option maxRecDepth 100000 in
theorem refname_5 (w : World) : Calls Tryd.prog 31 #[.int .i64 6] w (nameR 5 w) := by
  have hB : Below w.heap.size w w := Below.refl _ _
  go_enter Tryd.func31, Tryd.ntmps31
  go_wp2
  go_quiet (fail)
  go_wp2
  go_ret2
  exact ⟨⟨_, rfl⟩, below_drewN ((hB.alloc (Nat.le_refl _) _).alloc (by simp) _) _⟩
set_option maxRecDepth 100000 in
theorem refname_6 (w : World) : Calls Tryd.prog 31 #[.int .i64 7] w (nameR 6 w) := by
  have hB : Below w.heap.size w w := Below.refl _ _
  go_enter Tryd.func31, Tryd.ntmps31
  go_wp2
  go_quiet (fail)
  go_wp2
  go_ret2
  exact ⟨⟨_, rfl⟩, below_drewN ((hB.alloc (Nat.le_refl _) _).alloc (by simp) _) _⟩
set_option maxRecDepth 100000 in
theorem refname_7 (w : World) : Calls Tryd.prog 31 #[.int .i64 8] w (nameR 7 w) := by
  have hB : Below w.heap.size w w := Below.refl _ _
  go_enter Tryd.func31, Tryd.ntmps31
  go_wp2
  go_quiet (fail)
  go_wp2
  go_ret2
  exact ⟨⟨_, rfl⟩, below_drewN ((hB.alloc (Nat.le_refl _) _).alloc (by simp) _) _⟩
set_option maxRecDepth 100000 in
theorem refname_8 (w : World) : Calls Tryd.prog 31 #[.int .i64 9] w (nameR 8 w) := by
  have hB : Below w.heap.size w w := Below.refl _ _
  go_enter Tryd.func31, Tryd.ntmps31
  go_wp2
  go_quiet (fail)
  go_wp2
  go_ret2
  exact ⟨⟨_, rfl⟩, below_drewN ((hB.alloc (Nat.le_refl _) _).alloc (by simp) _) _⟩
set_option maxRecDepth 100000 in
theorem refname_9 (w : World) : Calls Tryd.prog 31 #[.int .i64 10] w (nameR 9 w) := by
  have hB : Below w.heap.size w w := Below.refl _ _
  go_enter Tryd.func31, Tryd.ntmps31
  go_wp2
  go_quiet (fail)
  go_wp2
  go_ret2
  exact ⟨⟨_, rfl⟩, below_drewN ((hB.alloc (Nat.le_refl _) _).alloc (by simp) _) _⟩
set_option maxRecDepth 100000 in
theorem refname_10 (w : World) : Calls Tryd.prog 31 #[.int .i64 11] w (nameR 10 w) := by
  have hB : Below w.heap.size w w := Below.refl _ _
  go_enter Tryd.func31, Tryd.ntmps31
  go_wp2
  go_quiet (fail)
  go_wp2
  go_ret2
  exact ⟨⟨_, rfl⟩, below_drewN ((hB.alloc (Nat.le_refl _) _).alloc (by simp) _) _⟩
set_option maxRecDepth 100000 in
theorem refname_11 (w : World) : Calls Tryd.prog 31 #[.int .i64 12] w (nameR 11 w) := by
  have hB : Below w.heap.size w w := Below.refl _ _
  go_enter Tryd.func31, Tryd.ntmps31
  go_wp2
  go_quiet (fail)
  go_wp2
  go_ret2
  exact ⟨⟨_, rfl⟩, below_drewN ((hB.alloc (Nat.le_refl _) _).alloc (by simp) _) _⟩
theorem refname_any : (x : Fin 12) → (w : World) → Calls Tryd.prog 31 #[.int .i64 (1 + (x.val : Int))] w (nameR x w)
  | ⟨0, _⟩, w => refname_0 w
  | ⟨1, _⟩, w => refname_1 w
  | ⟨2, _⟩, w => refname_2 w
  | ⟨3, _⟩, w => refname_3 w
  | ⟨4, _⟩, w => refname_4 w
  | ⟨5, _⟩, w => refname_5 w
  | ⟨6, _⟩, w => refname_6 w
  | ⟨7, _⟩, w => refname_7 w
  | ⟨8, _⟩, w => refname_8 w
  | ⟨9, _⟩, w => refname_9 w
  | ⟨10, _⟩, w => refname_10 w
  | ⟨11, _⟩, w => refname_11 w
end Go.Proofs.YtgplaeopcejmoaaDoor
