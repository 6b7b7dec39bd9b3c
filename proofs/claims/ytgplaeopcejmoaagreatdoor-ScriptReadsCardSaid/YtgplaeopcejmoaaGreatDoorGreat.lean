/- The walk of the document's Great: is an act too great to be spoken of? -/
import Derived.Test.YtgplaeopcejmoaaGreatDoorActtx
namespace Go.Proofs.YtgplaeopcejmoaaGreatDoor
open Go.RowKit

/-- what a false answer says -/
def smallA (a : Ar) : Prop := a.op.key.size ≤ 2000 ∧ a.op.til.size ≤ 2000 ∧ a.op.value.size ≤ 2000 ∧ a.picks.length ≤ 2000
def greatR (a : Ar) (e : Ending) : Prop := ∃ b, e = .returned (.bool b) ∧ (b = false → smallA a) ∧ (b = true → ¬ smallA a)
theorem greatR_t {a : Ar} (h : ¬ smallA a) : greatR a (.returned (.bool true)) := ⟨_, rfl, (fun e => by cases e), fun _ => h⟩
theorem greatR_f {a : Ar} (h : smallA a) : greatR a (.returned (.bool false)) := ⟨_, rfl, (fun _ => h), fun e => by cases e⟩

set_option maxRecDepth 100000 in
set_option maxHeartbeats 1000000 in
theorem great_any (a : Ar) (pa : Option Addr) (pc : Nat) (w : World) : Calls Tryz.prog 16 #[.agg (actCells a (.slice pa a.picks.length pc)).toArray] w fun e w' => greatR a e ∧ Below w.heap.size w w' := by
  have hb : Below w.heap.size w (w.alloc (.cells (actCells a (.slice pa a.picks.length pc)).toArray 39)) := (Below.refl _ w).alloc (Nat.le_refl _) _
  have hB := Blk.new w 39 (actCells a (.slice pa a.picks.length pc))
  obtain ⟨kind, node, source, n, ⟨k, m, key, til, value, level, lsn⟩, picks⟩ := a
  simp only [actCells] at hb hB ⊢
  have c6 := hB.cell 6; have c7 := hB.cell 7; have c8 := hB.cell 8; have c11 := hB.cell 11
  by_cases h1 : 2000 < key.size
  · have g1 : 2000 < (key.size : Int) := by omega
    go_enter Tryz.func16, Tryz.ntmps16
    go_wp2
    go_ret
    exact ⟨greatR_t (fun e => by have := e.1; simp only at this; omega), hb⟩
  · have g1 : ¬ 2000 < (key.size : Int) := by omega
    by_cases h2 : 2000 < til.size
    · have g2 : 2000 < (til.size : Int) := by omega
      go_enter Tryz.func16, Tryz.ntmps16
      go_wp2
      go_ret
      exact ⟨greatR_t (fun e => by have := e.2.1; simp only at this; omega), hb⟩
    · have g2 : ¬ 2000 < (til.size : Int) := by omega
      by_cases h3 : 2000 < value.size
      · have g3 : 2000 < (value.size : Int) := by omega
        go_enter Tryz.func16, Tryz.ntmps16
        go_wp2
        go_ret
        exact ⟨greatR_t (fun e => by have := e.2.2.1; simp only at this; omega), hb⟩
      · have g3 : ¬ 2000 < (value.size : Int) := by omega
        by_cases h4 : 2000 < picks.length
        · have g4 : 2000 < (picks.length : Int) := by omega
          go_enter Tryz.func16, Tryz.ntmps16
          go_wp2
          go_ret
          exact ⟨greatR_t (fun e => by have := e.2.2.2; simp only at this; omega), hb⟩
        · have g4 : ¬ 2000 < (picks.length : Int) := by omega
          go_enter Tryz.func16, Tryz.ntmps16
          go_wp2
          go_ret
          exact ⟨greatR_f ⟨by simp only; omega, by simp only; omega, by simp only; omega, by simp only; omega⟩, hb⟩
theorem great_yes (a : Ar) (h : ¬ smallA a) (pa : Option Addr) (pc : Nat) (w : World) : Calls Tryz.prog 16 #[.agg (actCells a (.slice pa a.picks.length pc)).toArray] w fun e w' => e = .returned (.bool true) ∧ Below w.heap.size w w' :=
  (great_any a pa pc w).mono fun _ _ ⟨⟨b, h1, h2, _⟩, hb⟩ => ⟨by cases b with
    | true => exact h1
    | false => exact absurd (h2 rfl) h, hb⟩
theorem great_no (a : Ar) (h : smallA a) (pa : Option Addr) (pc : Nat) (w : World) : Calls Tryz.prog 16 #[.agg (actCells a (.slice pa a.picks.length pc)).toArray] w fun e w' => e = .returned (.bool false) ∧ Below w.heap.size w w' :=
  (great_any a pa pc w).mono fun _ _ ⟨⟨b, h1, _, h2⟩, hb⟩ => ⟨by cases b with
    | false => exact h1
    | true => exact absurd h (h2 rfl), hb⟩
end Go.Proofs.YtgplaeopcejmoaaGreatDoor
