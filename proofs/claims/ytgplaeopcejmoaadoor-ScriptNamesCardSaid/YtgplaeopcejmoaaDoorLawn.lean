/- The law ScriptNames, walked. -/
import Derived.Test.YtgplaeopcejmoaaDoorNames
import Derived.Test.YtgplaeopcejmoaaDoorKnown
namespace Go.Proofs.YtgplaeopcejmoaaDoor
open Go.RowKit Go.Shelf

set_option maxRecDepth 100000 in
set_option maxHeartbeats 4000000 in
theorem lawN (w : World) (henv : Env w) : Calls Tryd.prog 5 #[] w fun e w' => e = .returned (.bool true) ∧ Below w.heap.size w w' := by
  have hfn : ∀ W, (binOp .eql 39 (.func (.func 30) #[] #[]) .nilFunc).run Tryd.prog W = .ok (.bool false) W := fun W => by kernel_rfl
  go_enter Tryd.func5, Tryd.ntmps5
  go_wp2_with (go_at_call 13; refine (names_any _).mono ?_; rintro e w2 ⟨rfl, rfl⟩)
  go_loopw [1] (fun i wr => ∃ k : Nat, k ≤ 14 ∧ i = .int .i64 k ∧ Below w.heap.size w wr) (fun i _ => 14 - (intOf i).toNat)
  case atStart => exact ⟨0, by omega, rfl, Below.refl _ _⟩
  case round =>
    obtain ⟨k, hk, rfl, HB⟩ := hrel
    by_cases hlt : k < 14
    · go_wp2_with (go_at_call 14; (with_reducible refine (lnames_any _ _).mono ?_); rintro e w3 ⟨rfl, hb⟩)
      go_roundw
      case rel => exact ⟨k + 1, by omega, by go_num, HB.trans (hb.mono HB.size)⟩
      case measure => simp [intOf]; omega
    · obtain rfl : k = 14 := by omega
      go_wp2_with (go_at_call 6; refine (known_any _ (henv.below HB)).mono ?_; rintro e w6 ⟨rfl, hb⟩)
      go_ret
      exact ⟨rfl, HB.trans (hb.mono HB.size)⟩
end Go.Proofs.YtgplaeopcejmoaaDoor
