/- The walk of the document's Great: is an act too great to be spoken of? The walk of the document's SameAct at two acts that are the same. -/
import Derived.Test.YtgplaeopcejmoaaGreatDoorActtx
import Derived.Deep.QuietTactic
namespace Go.Proofs.YtgplaeopcejmoaaGreatDoor
open Go.RowKit

/-- what a false answer says -/
def smallA (a : Ar) : Prop := a.op.key.size ≤ 2000 ∧ a.op.til.size ≤ 2000 ∧ a.op.value.size ≤ 2000 ∧ a.picks.length ≤ 2000
def greatR (a : Ar) (e : Ending) : Prop := ∃ b, e = .returned (.bool b) ∧ (b = false → smallA a) ∧ (b = true → ¬ smallA a)
theorem greatR_t {a : Ar} (h : ¬ smallA a) : greatR a (.returned (.bool true)) := ⟨_, rfl, (fun e => by cases e), fun _ => h⟩
theorem greatR_f {a : Ar} (h : smallA a) : greatR a (.returned (.bool false)) := ⟨_, rfl, (fun _ => h), fun e => by cases e⟩

set_option maxRecDepth 100000 in
set_option maxHeartbeats 1000000 in
theorem great_any (a : Ar) (pa : Option Addr) (pc : Nat) (w : World) : Calls Tryz.prog 16 #[.agg (actCells a (.slice pa a.picks.length pc)).toArray] w fun e w' => greatR a e ∧ Below w.heap.size w w' := by
  have hb : Below w.heap.size w (w.alloc (.cells (actCells a (.slice pa a.picks.length pc)).toArray 39)) := (Below.refl _ w).alloc (Nat.le_refl _) _
  have hB := Blk.new w 39 (actCells a (.slice pa a.picks.length pc))
  obtain ⟨kind, node, source, n, ⟨k, m, key, til, value, level, lsn⟩, picks⟩ := a
  simp only [actCells] at hb hB ⊢
  have c6 := hB.cell 6; have c7 := hB.cell 7; have c8 := hB.cell 8; have c11 := hB.cell 11
  by_cases h1 : 2000 < key.size
  · have g1 : 2000 < (key.size : Int) := by omega
    go_enter Tryz.func16, Tryz.ntmps16
    go_wp2
    go_ret
    exact ⟨greatR_t (fun e => by have := e.1; simp only at this; omega), hb⟩
  · have g1 : ¬ 2000 < (key.size : Int) := by omega
    by_cases h2 : 2000 < til.size
    · have g2 : 2000 < (til.size : Int) := by omega
      go_enter Tryz.func16, Tryz.ntmps16
      go_wp2
      go_ret
      exact ⟨greatR_t (fun e => by have := e.2.1; simp only at this; omega), hb⟩
    · have g2 : ¬ 2000 < (til.size : Int) := by omega
      by_cases h3 : 2000 < value.size
      · have g3 : 2000 < (value.size : Int) := by omega
        go_enter Tryz.func16, Tryz.ntmps16
        go_wp2
        go_ret
        exact ⟨greatR_t (fun e => by have := e.2.2.1; simp only at this; omega), hb⟩
      · have g3 : ¬ 2000 < (value.size : Int) := by omega
        by_cases h4 : 2000 < picks.length
        · have g4 : 2000 < (picks.length : Int) := by omega
          go_enter Tryz.func16, Tryz.ntmps16
          go_wp2
          go_ret
          exact ⟨greatR_t (fun e => by have := e.2.2.2; simp only at this; omega), hb⟩
        · have g4 : ¬ 2000 < (picks.length : Int) := by omega
          go_enter Tryz.func16, Tryz.ntmps16
          go_wp2
          go_ret
          exact ⟨greatR_f ⟨by simp only; omega, by simp only; omega, by simp only; omega, by simp only; omega⟩, hb⟩
theorem great_yes (a : Ar) (h : ¬ smallA a) (pa : Option Addr) (pc : Nat) (w : World) : Calls Tryz.prog 16 #[.agg (actCells a (.slice pa a.picks.length pc)).toArray] w fun e w' => e = .returned (.bool true) ∧ Below w.heap.size w w' :=
  (great_any a pa pc w).mono fun _ _ ⟨⟨b, h1, h2, _⟩, hb⟩ => ⟨by cases b with
    | true => exact h1
    | false => exact absurd (h2 rfl) h, hb⟩
theorem great_no (a : Ar) (h : smallA a) (pa : Option Addr) (pc : Nat) (w : World) : Calls Tryz.prog 16 #[.agg (actCells a (.slice pa a.picks.length pc)).toArray] w fun e w' => e = .returned (.bool false) ∧ Below w.heap.size w w' :=
  (great_any a pa pc w).mono fun _ _ ⟨⟨b, h1, _, h2⟩, hb⟩ => ⟨by cases b with
    | false => exact h1
    | true => exact absurd h (h2 rfl), hb⟩
end Go.Proofs.YtgplaeopcejmoaaGreatDoor
namespace Go.Proofs.YtgplaeopcejmoaaGreatDoor
open Go.RowKit

/-- numbers that lie in memory -/
def PkAt (w : World) (pa : Option Addr) (l : List Int) : Prop := l ≠ [] → ∃ g o, pa = some ⟨g, o, none⟩ ∧ g < w.heap.size ∧ ∀ j x, l[j]? = some x → w.cell? ⟨g, o + j, none⟩ = some (.int .i64 x)
theorem PkAt.below {w w' : World} {pa : Option Addr} {l : List Int} (h : PkAt w pa l) (hb : Below w.heap.size w w') : PkAt w' pa l := fun hl => by
  obtain ⟨g, o, e, hg, hc⟩ := h hl
  exact ⟨g, o, e, Nat.lt_of_lt_of_le hg hb.size, fun j x hx => (hb.cell (p := ⟨g, o + j, none⟩) hg).trans (hc j x hx)⟩
theorem PkAt.nil (w : World) (pa : Option Addr) : PkAt w pa [] := fun h => absurd rfl h

set_option maxRecDepth 100000 in
set_option maxHeartbeats 4000000 in
theorem refsame_eq (a : Ar) (pa pb : Option Addr) (ca cb : Nat) (w : World) (hl : a.picks.length ≤ 1000000) (ha : PkAt w pa a.picks) (hb : PkAt w pb a.picks) :
    Calls Tryz.prog 26 #[.agg (actCells a (.slice pa a.picks.length ca)).toArray, .agg (actCells a (.slice pb a.picks.length cb)).toArray] w fun e w' => e = .returned (.bool true) ∧ Below w.heap.size w w' := by
  have hA := (Blk.new w 39 (actCells a (.slice pa a.picks.length ca))).alloc (.cells (actCells a (.slice pb a.picks.length cb)).toArray 39)
  have hB := Blk.new (w.alloc (.cells (actCells a (.slice pa a.picks.length ca)).toArray 39)) 39 (actCells a (.slice pb a.picks.length cb))
  rw [World.size_alloc] at hB
  have hbel : Below w.heap.size w ((w.alloc (.cells (actCells a (.slice pa a.picks.length ca)).toArray 39)).alloc (.cells (actCells a (.slice pb a.picks.length cb)).toArray 39)) := ((Below.refl _ w).alloc (Nat.le_refl _) _).alloc (by simp) _
  have ha2 := ha.below hbel
  have hb2 := hb.below hbel
  clear ha hb
  have HA2 := Lib.hid ha2
  have HB2 := Lib.hid hb2
  clear ha2 hb2
  obtain ⟨kind, node, source, n, ⟨k', m, key, til, value, level, lsn⟩, picks⟩ := a
  simp only [actCells] at *
  have a0 := hA.cell 0; have a1 := hA.cell 1; have a2 := hA.cell 2; have a3 := hA.cell 3; have a4 := hA.cell 4; have a5 := hA.cell 5; have a6 := hA.cell 6; have a7 := hA.cell 7; have a8 := hA.cell 8; have a9 := hA.cell 9; have a10 := hA.cell 10; have a11 := hA.cell 11
  have b0 := hB.cell 0; have b1 := hB.cell 1; have b2 := hB.cell 2; have b3 := hB.cell 3; have b4 := hB.cell 4; have b5 := hB.cell 5; have b6 := hB.cell 6; have b7 := hB.cell 7; have b8 := hB.cell 8; have b9 := hB.cell 9; have b10 := hB.cell 10; have b11 := hB.cell 11
  have hlen : ((picks.length : Int) != (picks.length : Int)) = false := by simp
  have HA := Lib.hid hA
  have HB := Lib.hid hB
  clear hA hB
  go_enter Tryz.func26, Tryz.ntmps26
  go_wp2
  go_loopw [5] (fun i wr => ∃ k : Nat, k ≤ picks.length ∧ i = .int .i64 k ∧ Below w.heap.size w wr ∧ Hid (Blk wr w.heap.size 39 [.int .i64 kind, .int .i64 node, .int .i64 source, .int .i64 n, .int .i64 k', .int .u64 (m : Int), .string key, .string til, .string value, .int .i64 level, .int .u64 (lsn : Int), .slice pa picks.length ca]) ∧ Hid (Blk wr (w.heap.size + 1) 39 [.int .i64 kind, .int .i64 node, .int .i64 source, .int .i64 n, .int .i64 k', .int .u64 (m : Int), .string key, .string til, .string value, .int .i64 level, .int .u64 (lsn : Int), .slice pb picks.length cb]) ∧ Hid (PkAt wr pa picks) ∧ Hid (PkAt wr pb picks)) (fun i _ => picks.length - (intOf i).toNat)
  case atStart => exact ⟨0, Nat.zero_le _, rfl, hbel, HA, HB, HA2, HB2⟩
  case round =>
    clear a0 a1 a2 a3 a4 a5 a6 a7 a8 a9 a10 a11 b0 b1 b2 b3 b4 b5 b6 b7 b8 b9 b10 b11 hlen hbel HA HB HA2 HB2
    obtain ⟨k, hk, rfl, hb, HA, HB, HA2, HB2⟩ := hrel
    have q1 : wr.cell? ⟨w.heap.size, 11, none⟩ = some (.slice pa picks.length ca) := HA.out.cell 11
    have q2 : wr.cell? ⟨w.heap.size + 1, 11, none⟩ = some (.slice pb picks.length cb) := HB.out.cell 11
    by_cases hlt : k < picks.length
    · have hne : picks ≠ [] := fun e => by rw [e] at hlt; simp at hlt
      obtain ⟨x, hx⟩ : ∃ x, picks[k]? = some x := ⟨_, List.getElem?_eq_getElem hlt⟩
      obtain ⟨g, o, rfl, hg, hc⟩ := HA2.out hne
      obtain ⟨g', o', rfl, hg', hc'⟩ := HB2.out hne
      have y1 := hc k x hx
      have y2 := hc' k x hx
      clear hc hc' hx hne
      go_wp2
      go_quiet (fail)
      go_wp2
      go_roundw
      case rel => exact ⟨k + 1, by omega, by go_num, below_drewN hb _, Lib.hid (HA.out.drewN _), Lib.hid (HB.out.drewN _), Lib.hid (fun h => HA2.out h), Lib.hid (fun h => HB2.out h)⟩
      case measure => simp [intOf]; omega
    · go_wp2
      go_ret
      exact ⟨rfl, hb⟩
end Go.Proofs.YtgplaeopcejmoaaGreatDoor
