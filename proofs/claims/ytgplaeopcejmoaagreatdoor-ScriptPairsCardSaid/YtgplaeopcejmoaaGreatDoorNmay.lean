/- The walk of node.May at the members 2, 3, .. -/
import Derived.Test.YtgplaeopcejmoaaGreatDoorMset
import Derived.Test.YtgplaeopcejmoaaGreatDoorRsame
namespace Go.Proofs.YtgplaeopcejmoaaGreatDoor
open Go.RowKit

def memL (n : Nat) : List Int := (List.range n).map fun (i : Nat) => (i : Int) + 2
theorem memL_at {n i : Nat} (h : i < n) : (memL n)[i]? = some ((i : Int) + 2) := by
  unfold memL
  rw [List.getElem?_map, List.getElem?_range h]; rfl
theorem memL_len (n : Nat) : (memL n).length = n := by simp [memL]
set_option maxRecDepth 100000 in
set_option maxHeartbeats 2000000 in
theorem nmay_any (n : Nat) (hn : n ≤ 4) (frames quorum delay : Int) (pa : Option Addr) (pc : Nat) (w : World) (hP : PkAt w pa (memL n)) :
    Calls Tryz.prog 99 #[.agg #[.int .i64 1, .int .i64 frames, .slice pa n pc, .int .i64 quorum, .int .i64 delay]] w fun e w' => e = .returned (.bool (decide (4 ≤ frames ∧ frames ≤ 128 ∧ 0 ≤ quorum ∧ quorum ≤ n ∧ 0 ≤ delay ∧ delay ≤ 100))) ∧ Below w.heap.size w w' := by
  have hB := Blk.new w 149 [.int .i64 1, .int .i64 frames, .slice pa n pc, .int .i64 quorum, .int .i64 delay]
  have hb : Below w.heap.size w (w.alloc (.cells [.int .i64 1, .int .i64 frames, .slice pa n pc, .int .i64 quorum, .int .i64 delay].toArray 149)) := (Below.refl _ w).alloc (Nat.le_refl _) _
  have c0 := hB.cell 0; have c1 := hB.cell 1; have c2 := hB.cell 2; have c3 := hB.cell 3; have c4 := hB.cell 4
  have HP := Lib.hid (hP.below hb)
  clear hB hP
  go_enter Tryz.func99, Tryz.ntmps99
  go_wp2
  go_loop [8] (fun i => ∃ j : Nat, j ≤ n ∧ i = .int .i64 j) (fun i => n - (intOf i).toNat)
  case atStart => exact ⟨0, Nat.zero_le _, rfl⟩
  case round =>
    obtain ⟨j, hj, rfl⟩ := hrel
    by_cases hlt : j < n
    · have hne : memL n ≠ [] := fun e => by have := memL_len n; rw [e] at this; simp at this; omega
      obtain ⟨g, o, rfl, hg, hc⟩ := HP.out hne
      have y1 := hc j _ (memL_at hlt)
      have a1 : ¬ (j : Int) + 2 < 1 := by omega
      have a2 : ¬ 5 < (j : Int) + 2 := by omega
      have a3 : ((j : Int) + 2 == 1) = false := beq_eq_false_iff_ne.2 (by omega)
      by_cases h0 : 0 < j
      · have y2 := hc (j - 1) _ (memL_at (by omega))
        have e1 : ((j : Int) - 1).toNat = j - 1 := by omega
        have e2 : ((j - 1 : Nat) : Int) = (j : Int) - 1 := by omega
        rw [e2] at y2
        have b1 : 0 ≤ (j : Int) - 1 := by omega
        have b2 : (j : Int) - 1 < (n : Int) := by omega
        have b3 : ¬ (j : Int) + 2 ≤ (j : Int) - 1 + 2 := by omega
        clear hc hne e2
        go_wp2
        go_round
        case rel => exact ⟨j + 1, by omega, by go_num⟩
        case measure => simp [intOf]; omega
      · obtain rfl : j = 0 := by omega
        have y0 : (w.alloc (.cells #[.int .i64 1, .int .i64 frames, .slice (some ⟨g, o, none⟩) n pc, .int .i64 quorum, .int .i64 delay] 149)).cell? ⟨g, o, none⟩ = some (.int .i64 2) := by
          have h := hc 0 2 (by have := memL_at (n := n) (i := 0) (by omega); simpa using this)
          rw [Nat.add_zero] at h
          exact h
        clear hc hne y1 a1 a2 a3
        go_wp2
        go_round
        case rel => exact ⟨0 + 1, by omega, by go_num⟩
        case measure => simp [intOf]; omega
    · obtain rfl : j = n := by omega
      go_wp2
      all_goals
        go_ret
        refine ⟨ret_bool ?_, hb⟩
        first
        | (simp; done)
        | (simp; omega)
end Go.Proofs.YtgplaeopcejmoaaGreatDoor
