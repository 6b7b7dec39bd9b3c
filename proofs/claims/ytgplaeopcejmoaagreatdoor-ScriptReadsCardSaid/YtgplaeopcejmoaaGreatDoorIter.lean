/- Going over the operations' names: the iterator's contract. -/
import Derived.Test.YtgplaeopcejmoaaGreatDoorLine
import Derived.RangeFuncNested
import Derived.RangeFuncBound
import Derived.RangeFuncCalls
import Derived.RangeFuncLeaves
import Derived.RangeFuncBox
import Derived.Shelf.Abstract
import Derived.WalkKit
import Derived.OwnWalkIn
import Derived.TacticsInMore
import Derived.LoopNIn
import Derived.LoopIn
import Derived.Maps.AppendAt
namespace Go.Proofs.YtgplaeopcejmoaaGreatDoor
open Go.RowKit Go.Shelf

attribute [local go_sem] Oper.semAt_some

def opNames : List ByteArray := [⟨#[98, 101, 103, 105, 110]⟩, ⟨#[103, 101, 116]⟩, ⟨#[115, 99, 97, 110]⟩, ⟨#[112, 117, 116]⟩, ⟨#[100, 101, 108, 101, 116, 101]⟩, ⟨#[115, 97, 118, 101]⟩, ⟨#[98, 97, 99, 107]⟩, ⟨#[99, 111, 109, 109, 105, 116]⟩, ⟨#[97, 98, 111, 114, 116]⟩, ⟨#[97, 115, 107]⟩, ⟨#[118, 97, 99, 117, 117, 109]⟩, ⟨#[99, 104, 101, 99, 107]⟩]
theorem names_any (w : World) : Calls Tryz.prog 51 #[] w fun e w' => e = .returned (.func (.func 90) #[] #[]) ∧ w = w' := by
  go_enter Tryz.func51, Tryz.ntmps51
  go_wp2
  go_ret
  exact ⟨rfl, rfl⟩

def nmAt (x : Fin 12) : ByteArray := (opNames[x.val]?).getD ⟨#[]⟩
abbrev encK (x : Fin 12) : Array Value := #[.int .i64 (1 + (x.val : Int)), .string (nmAt x)]
def allK : List (Fin 12) := List.finRange 12
theorem allK_take (k : Nat) (h : k < 12) : allK.take (k + 1) = allK.take k ++ [⟨k, h⟩] := by
  have hk : k < allK.length := by simpa [allK] using h
  rw [List.take_succ_eq_append_getElem hk]
  simp [allK]
def namesV : Value := .agg (opNames.map Value.string).toArray
theorem idx_names : (x : Fin 12) → (W : World) → (Instr.index 142 namesV (.int .i64 (x.val : Int))).run Tryz.prog W = .ok (.string (nmAt x)) W
  | ⟨0, _⟩, _ => by kernel_rfl
  | ⟨1, _⟩, _ => by kernel_rfl
  | ⟨2, _⟩, _ => by kernel_rfl
  | ⟨3, _⟩, _ => by kernel_rfl
  | ⟨4, _⟩, _ => by kernel_rfl
  | ⟨5, _⟩, _ => by kernel_rfl
  | ⟨6, _⟩, _ => by kernel_rfl
  | ⟨7, _⟩, _ => by kernel_rfl
  | ⟨8, _⟩, _ => by kernel_rfl
  | ⟨9, _⟩, _ => by kernel_rfl
  | ⟨10, _⟩, _ => by kernel_rfl
  | ⟨11, _⟩, _ => by kernel_rfl

set_option maxRecDepth 100000 in
set_option maxHeartbeats 2000000 in
theorem names_stops (n n₀ : Nat) (hn : 1 ≤ n) (w : World) : SeqStopsK Fence.wide n Tryz.prog 90 #[] encK (Below n₀) (fun ys => ys = allK) (fun pre => pre <+: allK) 12 w := fun l J Jx W hW hJ hJx hY h0 => by
  refine callsIn_of_wp Tryz.func90 rfl trivial ?_ rfl
  simp only [Tryz.ntmps90, List.size_toArray, List.length_cons, List.length_nil, Nat.reduceAdd, Nat.reduceSub, Array.replicate_succ, Array.replicate_zero, List.push_toArray, List.append_toArray, List.nil_append, List.cons_append]
  gi_wp2
  gi_loopw [7] (fun i wr => ∃ k : Nat, k ≤ 12 ∧ i = .int .i64 k ∧ J (allK.take k) wr) (fun i _ => 12 - (intOf i).toNat)
  case atStart => exact ⟨0, by omega, rfl, hJ [] W _ none h0 (World.grownBy_alloc W _ none) (fun r e => by cases e)⟩
  case round =>
    obtain ⟨k, hk, rfl, hJs⟩ := hrel
    by_cases hlt : k < 12
    · obtain ⟨fn, tmps, assign, body, hy, hR⟩ := hY _ ⟨k, hlt⟩ wr hJs (by simp [allK]; omega)
      have hix := idx_names ⟨k, hlt⟩
      dsimp only [encK] at hy
      have hw : IntKind.i64.wrap (1 + (k : Int)) = 1 + (k : Int) := by rw [IntKind.wrap_i64]; omega
      simp only [namesV, opNames, List.map_cons, List.map_nil] at hix
      gi_wp2
      refine hR.mono ?_
      rintro e W3 (⟨rfl, hJ3, _⟩ | ⟨rfl, hJx3⟩)
      · gi_wp2
        go_roundw
        case rel => exact ⟨k + 1, by omega, by simp, by rw [allK_take k hlt]; exact hJ3⟩
        case measure => simp [intOf]; omega
      · gi_wp2
        refine bodyPost_ret (results_none rfl _ _ _) rfl ?_
        exact ⟨⟨_, rfl⟩, .inr ⟨allK.take k ++ [⟨k, hlt⟩], by rw [← allK_take k hlt]; exact List.take_prefix _ _, hJx3⟩⟩
    · obtain rfl : k = 12 := by omega
      gi_wp2
      go_end0
      exact ⟨⟨_, rfl⟩, .inl ⟨_, List.take_of_length_le (by simp [allK]), hJs⟩⟩
end Go.Proofs.YtgplaeopcejmoaaGreatDoor
