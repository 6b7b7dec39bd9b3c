/- The walk of the document's Name at every number. -/
import Derived.Test.YtgplaeopcejmoaaGreatDoorIter
import Derived.Deep.QuietTactic
namespace Go.Proofs.YtgplaeopcejmoaaGreatDoor
open Go.RowKit

def rnpParts : List ByteArray := [⟨#[]⟩, ⟨#[110, 107]⟩, ⟨#[110, 107, 116]⟩, ⟨#[110, 107, 118]⟩, ⟨#[110, 107]⟩, ⟨#[110]⟩, ⟨#[110, 108]⟩, ⟨#[110, 108]⟩, ⟨#[110]⟩, ⟨#[115, 108]⟩, ⟨#[]⟩, ⟨#[]⟩]
def rnpPt (x : Fin 12) : ByteArray := (rnpParts[x.val]?).getD ⟨#[]⟩
def rnpR (x : Fin 12) (w : World) (e : Ending) (w' : World) : Prop := e = .returned (.tuple #[.string (nmAt x), .string (rnpPt x)]) ∧ Below w.heap.size w w'
set_option maxRecDepth 100000 in
theorem rnp_0 (w : World) : Calls Tryz.prog 21 #[.int .i64 1] w (rnpR 0 w) := by
  have hB : Below w.heap.size w w := Below.refl _ _
  go_enter Tryz.func21, Tryz.ntmps21
  go_wp2
  go_quiet (fail)
  go_wp2
  go_ret2
  exact ⟨rfl, below_drewN ((hB.alloc (Nat.le_refl _) _).alloc (by simp) _) _⟩
set_option maxRecDepth 100000 in
theorem rnp_1 (w : World) : Calls Tryz.prog 21 #[.int .i64 2] w (rnpR 1 w) := by
  have hB : Below w.heap.size w w := Below.refl _ _
  go_enter Tryz.func21, Tryz.ntmps21
  go_wp2
  go_quiet (fail)
  go_wp2
  go_ret2
  exact ⟨rfl, below_drewN ((hB.alloc (Nat.le_refl _) _).alloc (by simp) _) _⟩
set_option maxRecDepth 100000 in
theorem rnp_2 (w : World) : Calls Tryz.prog 21 #[.int .i64 3] w (rnpR 2 w) := by
  have hB : Below w.heap.size w w := Below.refl _ _
  go_enter Tryz.func21, Tryz.ntmps21
  go_wp2
  go_quiet (fail)
  go_wp2
  go_ret2
  exact ⟨rfl, below_drewN ((hB.alloc (Nat.le_refl _) _).alloc (by simp) _) _⟩
set_option maxRecDepth 100000 in
theorem rnp_3 (w : World) : Calls Tryz.prog 21 #[.int .i64 4] w (rnpR 3 w) := by
  have hB : Below w.heap.size w w := Below.refl _ _
  go_enter Tryz.func21, Tryz.ntmps21
  go_wp2
  go_quiet (fail)
  go_wp2
  go_ret2
  exact ⟨rfl, below_drewN ((hB.alloc (Nat.le_refl _) _).alloc (by simp) _) _⟩
set_option maxRecDepth 100000 in
theorem rnp_4 (w : World) : Calls Tryz.prog 21 #[.int .i64 5] w (rnpR 4 w) := by
  have hB : Below w.heap.size w w := Below.refl _ _
  go_enter Tryz.func21, Tryz.ntmps21
  go_wp2
  go_quiet (fail)
  go_wp2
  go_ret2
  exact ⟨rfl, below_drewN ((hB.alloc (Nat.le_refl _) _).alloc (by simp) _) _⟩
set_option maxRecDepth 100000 in
theorem rnp_5 (w : World) : Calls Tryz.prog 21 #[.int .i64 6] w (rnpR 5 w) := by
  have hB : Below w.heap.size w w := Below.refl _ _
  go_enter Tryz.func21, Tryz.ntmps21
  go_wp2
  go_quiet (fail)
  go_wp2
  go_ret2
  exact ⟨rfl, below_drewN ((hB.alloc (Nat.le_refl _) _).alloc (by simp) _) _⟩
set_option maxRecDepth 100000 in
theorem rnp_6 (w : World) : Calls Tryz.prog 21 #[.int .i64 7] w (rnpR 6 w) := by
  have hB : Below w.heap.size w w := Below.refl _ _
  go_enter Tryz.func21, Tryz.ntmps21
  go_wp2
  go_quiet (fail)
  go_wp2
  go_ret2
  exact ⟨rfl, below_drewN ((hB.alloc (Nat.le_refl _) _).alloc (by simp) _) _⟩
set_option maxRecDepth 100000 in
theorem rnp_7 (w : World) : Calls Tryz.prog 21 #[.int .i64 8] w (rnpR 7 w) := by
  have hB : Below w.heap.size w w := Below.refl _ _
  go_enter Tryz.func21, Tryz.ntmps21
  go_wp2
  go_quiet (fail)
  go_wp2
  go_ret2
  exact ⟨rfl, below_drewN ((hB.alloc (Nat.le_refl _) _).alloc (by simp) _) _⟩
set_option maxRecDepth 100000 in
theorem rnp_8 (w : World) : Calls Tryz.prog 21 #[.int .i64 9] w (rnpR 8 w) := by
  have hB : Below w.heap.size w w := Below.refl _ _
  go_enter Tryz.func21, Tryz.ntmps21
  go_wp2
  go_quiet (fail)
  go_wp2
  go_ret2
  exact ⟨rfl, below_drewN ((hB.alloc (Nat.le_refl _) _).alloc (by simp) _) _⟩
set_option maxRecDepth 100000 in
theorem rnp_9 (w : World) : Calls Tryz.prog 21 #[.int .i64 10] w (rnpR 9 w) := by
  have hB : Below w.heap.size w w := Below.refl _ _
  go_enter Tryz.func21, Tryz.ntmps21
  go_wp2
  go_quiet (fail)
  go_wp2
  go_ret2
  exact ⟨rfl, below_drewN ((hB.alloc (Nat.le_refl _) _).alloc (by simp) _) _⟩
set_option maxRecDepth 100000 in
theorem rnp_10 (w : World) : Calls Tryz.prog 21 #[.int .i64 11] w (rnpR 10 w) := by
  have hB : Below w.heap.size w w := Below.refl _ _
  go_enter Tryz.func21, Tryz.ntmps21
  go_wp2
  go_quiet (fail)
  go_wp2
  go_ret2
  exact ⟨rfl, below_drewN ((hB.alloc (Nat.le_refl _) _).alloc (by simp) _) _⟩
set_option maxRecDepth 100000 in
theorem rnp_11 (w : World) : Calls Tryz.prog 21 #[.int .i64 12] w (rnpR 11 w) := by
  have hB : Below w.heap.size w w := Below.refl _ _
  go_enter Tryz.func21, Tryz.ntmps21
  go_wp2
  go_quiet (fail)
  go_wp2
  go_ret2
  exact ⟨rfl, below_drewN ((hB.alloc (Nat.le_refl _) _).alloc (by simp) _) _⟩
theorem rnp_in : (x : Fin 12) → (w : World) → Calls Tryz.prog 21 #[.int .i64 (1 + (x.val : Int))] w (rnpR x w)
  | ⟨0, _⟩, w => rnp_0 w
  | ⟨1, _⟩, w => rnp_1 w
  | ⟨2, _⟩, w => rnp_2 w
  | ⟨3, _⟩, w => rnp_3 w
  | ⟨4, _⟩, w => rnp_4 w
  | ⟨5, _⟩, w => rnp_5 w
  | ⟨6, _⟩, w => rnp_6 w
  | ⟨7, _⟩, w => rnp_7 w
  | ⟨8, _⟩, w => rnp_8 w
  | ⟨9, _⟩, w => rnp_9 w
  | ⟨10, _⟩, w => rnp_10 w
  | ⟨11, _⟩, w => rnp_11 w
set_option maxRecDepth 100000 in
theorem rnp_out (k : Int) (h : k < 1 ∨ 12 < k) (w : World) : Calls Tryz.prog 21 #[.int .i64 k] w fun e w' => e = .returned (.tuple #[.string ⟨#[]⟩, .string ⟨#[]⟩]) ∧ Below w.heap.size w w' := by
  have hB : Below w.heap.size w w := Below.refl _ _
  rcases h with h | h
  · go_enter Tryz.func21, Tryz.ntmps21
    go_wp2
    go_ret2
    exact ⟨rfl, (hB.alloc (Nat.le_refl _) _).alloc (by simp) _⟩
  · have h' : ¬ k < 1 := by omega
    go_enter Tryz.func21, Tryz.ntmps21
    go_wp2
    go_ret2
    exact ⟨rfl, (hB.alloc (Nat.le_refl _) _).alloc (by simp) _⟩
end Go.Proofs.YtgplaeopcejmoaaGreatDoor
