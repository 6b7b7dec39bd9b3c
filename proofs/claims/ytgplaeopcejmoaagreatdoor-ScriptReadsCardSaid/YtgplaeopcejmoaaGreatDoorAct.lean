/- Acts: what a kind names; the acts' names; MayAct. -/
import Derived.Test.YtgplaeopcejmoaaGreatDoorOpofw
namespace Go.Proofs.YtgplaeopcejmoaaGreatDoor
open Go.RowKit Go.Shelf

def actNames : List ByteArray := [⟨#[111, 112]⟩, ⟨#[104, 101, 97, 114]⟩, ⟨#[108, 111, 115, 101]⟩, ⟨#[100, 111, 117, 98, 108, 101]⟩, ⟨#[116, 105, 99, 107]⟩, ⟨#[102, 117, 115, 101]⟩, ⟨#[99, 114, 97, 115, 104]⟩, ⟨#[111, 112, 101, 110]⟩, ⟨#[102, 111, 108, 108, 111, 119]⟩, ⟨#[112, 114, 111, 109, 111, 116, 101]⟩, ⟨#[114, 101, 119, 105, 110, 100]⟩, ⟨#[115, 112, 111, 105, 108]⟩]
def ofActL : List (Int × Int) := [(1, 9), (2, 4), (3, 4), (4, 4), (5, 1), (6, 5), (7, 17), (8, 21), (9, 3), (10, 1), (11, 3), (12, 5)]
def ofActV (k : Int) : Value := .tuple #[.int .i64 ((getI ofActL k).getD 0), .bool (getI ofActL k).isSome]
theorem getI_none {k : Int} (h : k < 1 ∨ 12 < k) : getI ofActL k = none := by
  simp only [ofActL, getI]
  repeat (rw [if_neg (by omega)])

set_option maxRecDepth 100000 in
theorem ofAct_any (k : Int) (w : World) : Calls Tryz.prog 57 #[.int .i64 k] w fun e w' => e = .returned (ofActV k) ∧ w = w' := by
  by_cases h : k < 1 ∨ 12 < k
  · have hv : ofActV k = .tuple #[.int .i64 0, .bool false] := by unfold ofActV; rw [getI_none h]; rfl
    rw [hv]
    clear hv
    have e1 : (k == 1) = false := by simp; omega
    have e2 : (k == 2) = false := by simp; omega
    have e3 : (k == 3) = false := by simp; omega
    have e4 : (k == 4) = false := by simp; omega
    have e5 : (k == 5) = false := by simp; omega
    have e6 : (k == 6) = false := by simp; omega
    have e7 : (k == 7) = false := by simp; omega
    have e8 : (k == 8) = false := by simp; omega
    have e9 : (k == 9) = false := by simp; omega
    have e10 : (k == 10) = false := by simp; omega
    have e11 : (k == 11) = false := by simp; omega
    have e12 : (k == 12) = false := by simp; omega
    clear h
    go_enter Tryz.func57, Tryz.ntmps57
    go_wp2
    go_ret2
    exact ⟨rfl, rfl⟩
  · have hk : k = 1 ∨ k = 2 ∨ k = 3 ∨ k = 4 ∨ k = 5 ∨ k = 6 ∨ k = 7 ∨ k = 8 ∨ k = 9 ∨ k = 10 ∨ k = 11 ∨ k = 12 := by omega
    rcases hk with rfl | rfl | rfl | rfl | rfl | rfl | rfl | rfl | rfl | rfl | rfl | rfl
    all_goals
      go_enter Tryz.func57, Tryz.ntmps57
      go_wp2
      go_ret2
      exact ⟨rfl, rfl⟩

set_option maxRecDepth 100000 in
theorem actNames_any (w : World) : Calls Tryz.prog 58 #[] w fun e w' => e = .returned (.slice (some ⟨w.heap.size, 0, none⟩) 12 12) ∧ w' = w.alloc (.cells (actNames.map Value.string).toArray 9) := by
  go_enter Tryz.func58, Tryz.ntmps58
  go_wp2
  go_ret
  exact ⟨rfl, rfl⟩
end Go.Proofs.YtgplaeopcejmoaaGreatDoor
