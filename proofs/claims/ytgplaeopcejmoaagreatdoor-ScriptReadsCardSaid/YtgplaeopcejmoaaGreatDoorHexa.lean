/- The walks of plain and of the spelling of one byte. -/
import Derived.Test.YtgplaeopcejmoaaGreatDoorByte
namespace Go.Proofs.YtgplaeopcejmoaaGreatDoor
open Go.RowKit

theorem plainB_nat (c : UInt8) : plainB c = ((decide (33 ≤ (c.toNat : Int)) && decide ((c.toNat : Int) ≤ 126)) && ((c.toNat : Int) != 37)) := by
  have : ∀ k : Fin 256, plainB (UInt8.ofNat k.val) = ((decide (33 ≤ ((UInt8.ofNat k.val).toNat : Int)) && decide (((UInt8.ofNat k.val).toNat : Int) ≤ 126)) && (((UInt8.ofNat k.val).toNat : Int) != 37)) := by decide +kernel
  have h := this ⟨c.toNat, c.toNat_lt⟩
  simp only [UInt8.ofNat_toNat] at h
  exact h
theorem letter_hi (c : UInt8) : ∀ h, (⟨#[48, 49, 50, 51, 52, 53, 54, 55, 56, 57, 97, 98, 99, 100, 101, 102]⟩ : ByteArray)[((c.toNat : Int) / 16).toNat]'h = hexd (c.toNat / 16) := by
  intro h
  have e : ((c.toNat : Int) / 16).toNat = c.toNat / 16 := by omega
  have h1 := letter (n := c.toNat / 16) (by have := c.toNat_lt; omega)
  obtain ⟨hl, h1⟩ := Array.getElem?_eq_some_iff.1 h1
  rw [← h1]
  simp only [e]
  rfl
theorem letter_lo (c : UInt8) : ∀ h, (⟨#[48, 49, 50, 51, 52, 53, 54, 55, 56, 57, 97, 98, 99, 100, 101, 102]⟩ : ByteArray)[((c.toNat : Int) % 16).toNat]'h = hexd (c.toNat % 16) := by
  intro h
  have e : ((c.toNat : Int) % 16).toNat = c.toNat % 16 := by omega
  have h1 := letter (n := c.toNat % 16) (by omega)
  obtain ⟨hl, h1⟩ := Array.getElem?_eq_some_iff.1 h1
  rw [← h1]
  simp only [e]
  rfl
theorem and15 (c : UInt8) : bits .and .u8 (c.toNat : Int) 15 = (c.toNat : Int) % 16 := by
  have : ∀ k : Fin 256, bits .and .u8 (k.val : Int) 15 = (k.val : Int) % 16 := by decide +kernel
  exact this ⟨c.toNat, c.toNat_lt⟩
theorem plain_any (c : UInt8) (w : World) : Calls Tryz.prog 43 #[.int .u8 c.toNat] w fun e w' => e = .returned (.bool (plainB c)) ∧ w = w' := by
  go_enter Tryz.func43, Tryz.ntmps43
  go_wp2
  all_goals
    go_ret
    refine ⟨ret_bool ?_, rfl⟩
    rw [plainB_nat]
  · rename_i h1 h2; rw [decide_eq_true h1, decide_eq_true h2]; simp
  · rename_i h1 h2; rw [decide_eq_true h1, decide_eq_false (by omega)]; simp
  · rename_i h1; rw [decide_eq_false (by omega)]; simp

set_option maxRecDepth 100000 in
theorem hex_one (ad : Addr) (c : UInt8) (k : Nat) (w : World) (hc : w.cell? ad = some (.int .u8 c.toNat)) :
    Calls Tryz.prog 49 #[.slice (some ad) 1 k] w fun e w' => e = .returned (.string ⟨#[hexd (c.toNat / 16), hexd (c.toNat % 16)]⟩) ∧ Below w.heap.size w w' := by
  obtain ⟨i0, hi0, hz0, hz1, hz2⟩ := info_parts infoU8
  obtain ⟨w1, hmk0, hown1, hgr1⟩ := run_make_own (P := Tryz.prog) w w.heap.size 77 5 i0 _ 1 Tryz.underlying77 hi0 hz0 hz1 .i64 .i64 2 (by rw [hz2]; omega) (by simp [maxLen]) (Nat.le_refl _)
  have hmk : (Instr.makeSlice 77 (.int .i64 0) (.int .i64 2)).run Tryz.prog w = .ok (.slice (some ⟨w.heap.size, 0, none⟩) 0 2) w1 := hmk0
  clear hmk0
  have hb1 : Below w.heap.size w w1 := ⟨hgr1.os, hgr1.tape, hgr1.output, hgr1.size, fun j hj => hgr1.block j hj (by simp)⟩
  have hc1 : w1.cell? ad = some (.int .u8 c.toNat) := (hb1.cell (cell_lt hc)).trans hc
  go_enter Tryz.func49, Tryz.ntmps49
  go_wp2
  go_loopw [3, 12] (fun v i wr => (v = .slice (some ⟨w.heap.size, 0, none⟩) 0 2 ∧ i = .int .i64 0 ∧ w1 = wr) ∨ (∃ (v' : Value), v = v' ∧ i = .int .i64 1 ∧ OwnB wr w.heap.size v' [hexd (c.toNat / 16), hexd (c.toNat % 16)] ∧ Below w.heap.size w wr)) (fun _ i _ => 1 - (intOf i).toNat)
  case atStart => exact .inl ⟨rfl, rfl, rfl⟩
  case round =>
    rcases hrel with ⟨rfl, rfl, rfl⟩ | ⟨v', rfl, rfl, hown2, hb2⟩
    · have h1 := letter_hi c
      have h2 := letter_lo c
      have hb := and15 c
      have l1 : 0 ≤ (c.toNat : Int) / 16 := by omega
      have l2 : (c.toNat : Int) / 16 < 16 := by have := c.toNat_lt; omega
      have l3 : 0 ≤ (c.toNat : Int) % 16 := by omega
      have l4 : (c.toNat : Int) % 16 < 16 := by omega
      go_wp2
      go_region_law (refine step_append_b rfl (.tmp 16) (.tmp 23) rfl w.heap.size (.slice (some ⟨w.heap.size, 0, none⟩) 0 2) [] ⟨w1.heap.size, 0, none⟩ 2 2 [hexd (c.toNat / 16), hexd (c.toNat % 16)] (by simp [Act.eval]) (by simp [Act.eval]) (by exact World.ownsRow.alloc hown1 _) (by simp) (by have := hgr1.size; simp; omega) rfl (by omega) (by intro j u hu; exact news_lit _ _ j u hu) ?_; intro v2 w2 hown2 hgr2)
      all_goals
        have hb2 : Below w.heap.size w w2 := ((hb1.alloc hb1.size _).drew).grown hgr2 (by have := hb1.size; simp; omega) (fun z hz => (hown1.lt z hz).1)
        go_wp2
        go_roundw
        case rel => exact .inr ⟨v2, rfl, rfl, hown2, hb2⟩
        case measure => simp [intOf]
    · have hcv := conv_own (l := [hexd (c.toNat / 16), hexd (c.toNat % 16)]) hown2
      go_wp2
      go_ret
      exact ⟨rfl, hb2⟩
end Go.Proofs.YtgplaeopcejmoaaGreatDoor
