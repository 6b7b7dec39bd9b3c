/- The walk of the document's ActName at every number. -/
import Derived.Test.YtgplaeopcejmoaaGreatDoorAct
import Derived.Deep.QuietTactic
namespace Go.Proofs.YtgplaeopcejmoaaGreatDoor
open Go.RowKit

def rapParts : List ByteArray := [⟨#[100, 111]⟩, ⟨#[110]⟩, ⟨#[110]⟩, ⟨#[110]⟩, ⟨#[100]⟩, ⟨#[100, 110]⟩, ⟨#[100, 112]⟩, ⟨#[100, 110, 112]⟩, ⟨#[100, 115]⟩, ⟨#[100]⟩, ⟨#[100, 115]⟩, ⟨#[100, 110]⟩]
def rapPt (x : Fin 12) : ByteArray := (rapParts[x.val]?).getD ⟨#[]⟩
def rapNm (x : Fin 12) : ByteArray := (actNames[x.val]?).getD ⟨#[]⟩
def rapR (x : Fin 12) (w : World) (e : Ending) (w' : World) : Prop := e = .returned (.tuple #[.string (rapNm x), .string (rapPt x)]) ∧ Below w.heap.size w w'
set_option maxRecDepth 100000 in
theorem rap_0 (w : World) : Calls Tryz.prog 71 #[.int .i64 1] w (rapR 0 w) := by
  have hB : Below w.heap.size w w := Below.refl _ _
  go_enter Tryz.func71, Tryz.ntmps71
  go_wp2
  go_quiet (fail)
  go_wp2
  go_ret2
  exact ⟨rfl, below_drewN ((hB.alloc (Nat.le_refl _) _).alloc (by simp) _) _⟩
set_option maxRecDepth 100000 in
theorem rap_1 (w : World) : Calls Tryz.prog 71 #[.int .i64 2] w (rapR 1 w) := by
  have hB : Below w.heap.size w w := Below.refl _ _
  go_enter Tryz.func71, Tryz.ntmps71
  go_wp2
  go_quiet (fail)
  go_wp2
  go_ret2
  exact ⟨rfl, below_drewN ((hB.alloc (Nat.le_refl _) _).alloc (by simp) _) _⟩
set_option maxRecDepth 100000 in
theorem rap_2 (w : World) : Calls Tryz.prog 71 #[.int .i64 3] w (rapR 2 w) := by
  have hB : Below w.heap.size w w := Below.refl _ _
  go_enter Tryz.func71, Tryz.ntmps71
  go_wp2
  go_quiet (fail)
  go_wp2
  go_ret2
  exact ⟨rfl, below_drewN ((hB.alloc (Nat.le_refl _) _).alloc (by simp) _) _⟩
set_option maxRecDepth 100000 in
theorem rap_3 (w : World) : Calls Tryz.prog 71 #[.int .i64 4] w (rapR 3 w) := by
  have hB : Below w.heap.size w w := Below.refl _ _
  go_enter Tryz.func71, Tryz.ntmps71
  go_wp2
  go_quiet (fail)
  go_wp2
  go_ret2
  exact ⟨rfl, below_drewN ((hB.alloc (Nat.le_refl _) _).alloc (by simp) _) _⟩
set_option maxRecDepth 100000 in
theorem rap_4 (w : World) : Calls Tryz.prog 71 #[.int .i64 5] w (rapR 4 w) := by
  have hB : Below w.heap.size w w := Below.refl _ _
  go_enter Tryz.func71, Tryz.ntmps71
  go_wp2
  go_quiet (fail)
  go_wp2
  go_ret2
  exact ⟨rfl, below_drewN ((hB.alloc (Nat.le_refl _) _).alloc (by simp) _) _⟩
set_option maxRecDepth 100000 in
theorem rap_5 (w : World) : Calls Tryz.prog 71 #[.int .i64 6] w (rapR 5 w) := by
  have hB : Below w.heap.size w w := Below.refl _ _
  go_enter Tryz.func71, Tryz.ntmps71
  go_wp2
  go_quiet (fail)
  go_wp2
  go_ret2
  exact ⟨rfl, below_drewN ((hB.alloc (Nat.le_refl _) _).alloc (by simp) _) _⟩
set_option maxRecDepth 100000 in
theorem rap_6 (w : World) : Calls Tryz.prog 71 #[.int .i64 7] w (rapR 6 w) := by
  have hB : Below w.heap.size w w := Below.refl _ _
  go_enter Tryz.func71, Tryz.ntmps71
  go_wp2
  go_quiet (fail)
  go_wp2
  go_ret2
  exact ⟨rfl, below_drewN ((hB.alloc (Nat.le_refl _) _).alloc (by simp) _) _⟩
set_option maxRecDepth 100000 in
theorem rap_7 (w : World) : Calls Tryz.prog 71 #[.int .i64 8] w (rapR 7 w) := by
  have hB : Below w.heap.size w w := Below.refl _ _
  go_enter Tryz.func71, Tryz.ntmps71
  go_wp2
  go_quiet (fail)
  go_wp2
  go_ret2
  exact ⟨rfl, below_drewN ((hB.alloc (Nat.le_refl _) _).alloc (by simp) _) _⟩
set_option maxRecDepth 100000 in
theorem rap_8 (w : World) : Calls Tryz.prog 71 #[.int .i64 9] w (rapR 8 w) := by
  have hB : Below w.heap.size w w := Below.refl _ _
  go_enter Tryz.func71, Tryz.ntmps71
  go_wp2
  go_quiet (fail)
  go_wp2
  go_ret2
  exact ⟨rfl, below_drewN ((hB.alloc (Nat.le_refl _) _).alloc (by simp) _) _⟩
set_option maxRecDepth 100000 in
theorem rap_9 (w : World) : Calls Tryz.prog 71 #[.int .i64 10] w (rapR 9 w) := by
  have hB : Below w.heap.size w w := Below.refl _ _
  go_enter Tryz.func71, Tryz.ntmps71
  go_wp2
  go_quiet (fail)
  go_wp2
  go_ret2
  exact ⟨rfl, below_drewN ((hB.alloc (Nat.le_refl _) _).alloc (by simp) _) _⟩
set_option maxRecDepth 100000 in
theorem rap_10 (w : World) : Calls Tryz.prog 71 #[.int .i64 11] w (rapR 10 w) := by
  have hB : Below w.heap.size w w := Below.refl _ _
  go_enter Tryz.func71, Tryz.ntmps71
  go_wp2
  go_quiet (fail)
  go_wp2
  go_ret2
  exact ⟨rfl, below_drewN ((hB.alloc (Nat.le_refl _) _).alloc (by simp) _) _⟩
set_option maxRecDepth 100000 in
theorem rap_11 (w : World) : Calls Tryz.prog 71 #[.int .i64 12] w (rapR 11 w) := by
  have hB : Below w.heap.size w w := Below.refl _ _
  go_enter Tryz.func71, Tryz.ntmps71
  go_wp2
  go_quiet (fail)
  go_wp2
  go_ret2
  exact ⟨rfl, below_drewN ((hB.alloc (Nat.le_refl _) _).alloc (by simp) _) _⟩
theorem rap_in : (x : Fin 12) → (w : World) → Calls Tryz.prog 71 #[.int .i64 (1 + (x.val : Int))] w (rapR x w)
  | ⟨0, _⟩, w => rap_0 w
  | ⟨1, _⟩, w => rap_1 w
  | ⟨2, _⟩, w => rap_2 w
  | ⟨3, _⟩, w => rap_3 w
  | ⟨4, _⟩, w => rap_4 w
  | ⟨5, _⟩, w => rap_5 w
  | ⟨6, _⟩, w => rap_6 w
  | ⟨7, _⟩, w => rap_7 w
  | ⟨8, _⟩, w => rap_8 w
  | ⟨9, _⟩, w => rap_9 w
  | ⟨10, _⟩, w => rap_10 w
  | ⟨11, _⟩, w => rap_11 w
set_option maxRecDepth 100000 in
theorem rap_out (k : Int) (h : k < 1 ∨ 12 < k) (w : World) : Calls Tryz.prog 71 #[.int .i64 k] w fun e w' => e = .returned (.tuple #[.string ⟨#[]⟩, .string ⟨#[]⟩]) ∧ Below w.heap.size w w' := by
  have hB : Below w.heap.size w w := Below.refl _ _
  rcases h with h | h
  · go_enter Tryz.func71, Tryz.ntmps71
    go_wp2
    go_ret2
    exact ⟨rfl, (hB.alloc (Nat.le_refl _) _).alloc (by simp) _⟩
  · have h' : ¬ k < 1 := by omega
    go_enter Tryz.func71, Tryz.ntmps71
    go_wp2
    go_ret2
    exact ⟨rfl, (hB.alloc (Nat.le_refl _) _).alloc (by simp) _⟩
end Go.Proofs.YtgplaeopcejmoaaGreatDoor
