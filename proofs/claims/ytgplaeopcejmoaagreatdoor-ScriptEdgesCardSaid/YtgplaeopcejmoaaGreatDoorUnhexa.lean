/- The walks of plain and of the spelling of one byte. The walk of the reading of one spelled byte. -/
import Derived.Test.YtgplaeopcejmoaaGreatDoorByte
import Derived.Deep.LoopGhost
import Derived.WalkMore
namespace Go.Proofs.YtgplaeopcejmoaaGreatDoor
open Go.RowKit

theorem plainB_nat (c : UInt8) : plainB c = ((decide (33 ≤ (c.toNat : Int)) && decide ((c.toNat : Int) ≤ 126)) && ((c.toNat : Int) != 37)) := by
  have : ∀ k : Fin 256, plainB (UInt8.ofNat k.val) = ((decide (33 ≤ ((UInt8.ofNat k.val).toNat : Int)) && decide (((UInt8.ofNat k.val).toNat : Int) ≤ 126)) && (((UInt8.ofNat k.val).toNat : Int) != 37)) := by decide +kernel
  have h := this ⟨c.toNat, c.toNat_lt⟩
  simp only [UInt8.ofNat_toNat] at h
  exact h
theorem letter_hi (c : UInt8) : ∀ h, (⟨#[48, 49, 50, 51, 52, 53, 54, 55, 56, 57, 97, 98, 99, 100, 101, 102]⟩ : ByteArray)[((c.toNat : Int) / 16).toNat]'h = hexd (c.toNat / 16) := by
  intro h
  have e : ((c.toNat : Int) / 16).toNat = c.toNat / 16 := by omega
  have h1 := letter (n := c.toNat / 16) (by have := c.toNat_lt; omega)
  obtain ⟨hl, h1⟩ := Array.getElem?_eq_some_iff.1 h1
  rw [← h1]
  simp only [e]
  rfl
theorem letter_lo (c : UInt8) : ∀ h, (⟨#[48, 49, 50, 51, 52, 53, 54, 55, 56, 57, 97, 98, 99, 100, 101, 102]⟩ : ByteArray)[((c.toNat : Int) % 16).toNat]'h = hexd (c.toNat % 16) := by
  intro h
  have e : ((c.toNat : Int) % 16).toNat = c.toNat % 16 := by omega
  have h1 := letter (n := c.toNat % 16) (by omega)
  obtain ⟨hl, h1⟩ := Array.getElem?_eq_some_iff.1 h1
  rw [← h1]
  simp only [e]
  rfl
theorem and15 (c : UInt8) : bits .and .u8 (c.toNat : Int) 15 = (c.toNat : Int) % 16 := by
  have : ∀ k : Fin 256, bits .and .u8 (k.val : Int) 15 = (k.val : Int) % 16 := by decide +kernel
  exact this ⟨c.toNat, c.toNat_lt⟩
theorem plain_any (c : UInt8) (w : World) : Calls Tryz.prog 43 #[.int .u8 c.toNat] w fun e w' => e = .returned (.bool (plainB c)) ∧ w = w' := by
  go_enter Tryz.func43, Tryz.ntmps43
  go_wp2
  all_goals
    go_ret
    refine ⟨ret_bool ?_, rfl⟩
    rw [plainB_nat]
  · rename_i h1 h2; rw [decide_eq_true h1, decide_eq_true h2]; simp
  · rename_i h1 h2; rw [decide_eq_true h1, decide_eq_false (by omega)]; simp
  · rename_i h1; rw [decide_eq_false (by omega)]; simp

set_option maxRecDepth 100000 in
theorem hex_one (ad : Addr) (c : UInt8) (k : Nat) (w : World) (hc : w.cell? ad = some (.int .u8 c.toNat)) :
    Calls Tryz.prog 49 #[.slice (some ad) 1 k] w fun e w' => e = .returned (.string ⟨#[hexd (c.toNat / 16), hexd (c.toNat % 16)]⟩) ∧ Below w.heap.size w w' := by
  obtain ⟨i0, hi0, hz0, hz1, hz2⟩ := info_parts infoU8
  obtain ⟨w1, hmk0, hown1, hgr1⟩ := run_make_own (P := Tryz.prog) w w.heap.size 77 5 i0 _ 1 Tryz.underlying77 hi0 hz0 hz1 .i64 .i64 2 (by rw [hz2]; omega) (by simp [maxLen]) (Nat.le_refl _)
  have hmk : (Instr.makeSlice 77 (.int .i64 0) (.int .i64 2)).run Tryz.prog w = .ok (.slice (some ⟨w.heap.size, 0, none⟩) 0 2) w1 := hmk0
  clear hmk0
  have hb1 : Below w.heap.size w w1 := ⟨hgr1.os, hgr1.tape, hgr1.output, hgr1.size, fun j hj => hgr1.block j hj (by simp)⟩
  have hc1 : w1.cell? ad = some (.int .u8 c.toNat) := (hb1.cell (cell_lt hc)).trans hc
  go_enter Tryz.func49, Tryz.ntmps49
  go_wp2
  go_loopw [3, 12] (fun v i wr => (v = .slice (some ⟨w.heap.size, 0, none⟩) 0 2 ∧ i = .int .i64 0 ∧ w1 = wr) ∨ (∃ (v' : Value), v = v' ∧ i = .int .i64 1 ∧ OwnB wr w.heap.size v' [hexd (c.toNat / 16), hexd (c.toNat % 16)] ∧ Below w.heap.size w wr)) (fun _ i _ => 1 - (intOf i).toNat)
  case atStart => exact .inl ⟨rfl, rfl, rfl⟩
  case round =>
    rcases hrel with ⟨rfl, rfl, rfl⟩ | ⟨v', rfl, rfl, hown2, hb2⟩
    · have h1 := letter_hi c
      have h2 := letter_lo c
      have hb := and15 c
      have l1 : 0 ≤ (c.toNat : Int) / 16 := by omega
      have l2 : (c.toNat : Int) / 16 < 16 := by have := c.toNat_lt; omega
      have l3 : 0 ≤ (c.toNat : Int) % 16 := by omega
      have l4 : (c.toNat : Int) % 16 < 16 := by omega
      go_wp2
      go_region_law (refine step_append_b rfl (.tmp 16) (.tmp 23) rfl w.heap.size (.slice (some ⟨w.heap.size, 0, none⟩) 0 2) [] ⟨w1.heap.size, 0, none⟩ 2 2 [hexd (c.toNat / 16), hexd (c.toNat % 16)] (by simp [Act.eval]) (by simp [Act.eval]) (by exact World.ownsRow.alloc hown1 _) (by simp) (by have := hgr1.size; simp; omega) rfl (by omega) (by intro j u hu; exact news_lit _ _ j u hu) ?_; intro v2 w2 hown2 hgr2)
      all_goals
        have hb2 : Below w.heap.size w w2 := ((hb1.alloc hb1.size _).drew).grown hgr2 (by have := hb1.size; simp; omega) (fun z hz => (hown1.lt z hz).1)
        go_wp2
        go_roundw
        case rel => exact .inr ⟨v2, rfl, rfl, hown2, hb2⟩
        case measure => simp [intOf]
    · have hcv := conv_own (l := [hexd (c.toNat / 16), hexd (c.toNat % 16)]) hown2
      go_wp2
      go_ret
      exact ⟨rfl, hb2⟩
end Go.Proofs.YtgplaeopcejmoaaGreatDoor
namespace Go.Proofs.YtgplaeopcejmoaaGreatDoor
open Go.RowKit

/-- what two letters spell -/
def unhex2 (a b : UInt8) : Option UInt8 := match unhexd a, unhexd b with
  | some x, some y => some (UInt8.ofNat (x * 16 + y))
  | _, _ => none

def unhexR (a b : UInt8) (base : Nat) (e : Ending) (w' : World) : Prop := match unhex2 a b with
  | some x => ∃ v, e = .returned (.tuple #[v, .int .i64 0]) ∧ OwnB w' base v [x]
  | none => e = .returned (.tuple #[.slice none 0 0, .int .i64 4])
theorem unhexR_none {a b : UInt8} {base : Nat} {w' : World} (h : unhex2 a b = none) : unhexR a b base (.returned (.tuple #[.slice none 0 0, .int .i64 4])) w' := by
  unfold unhexR; rw [h]
theorem unhexR_some {a b x : UInt8} {base : Nat} {v : Value} {w' : World} (h : unhex2 a b = some x) (ho : OwnB w' base v [x]) : unhexR a b base (.returned (.tuple #[v, .int .i64 0])) w' := by
  unfold unhexR; rw [h]; exact ⟨v, rfl, ho⟩
theorem or_u8 (x y : Nat) (hx : x < 16) (hy : y < 16) : bits .or .u8 (((x * 16 : Nat)) : Int) (y : Int) = ((x * 16 + y : Nat) : Int) := by
  have : ∀ p q : Fin 16, bits .or .u8 (((p.val * 16 : Nat)) : Int) (q.val : Int) = ((p.val * 16 + q.val : Nat) : Int) := by decide +kernel
  exact this ⟨x, hx⟩ ⟨y, hy⟩
theorem dig1 {a : UInt8} (h1 : 48 ≤ (a.toNat : Int)) (h2 : (a.toNat : Int) ≤ 57) : unhexd a = some (a.toNat - 48) := by
  unfold unhexd; rw [if_pos ⟨by omega, by omega⟩]
theorem dig2 {a : UInt8} (h1 : 97 ≤ (a.toNat : Int)) (h2 : (a.toNat : Int) ≤ 102) : unhexd a = some (a.toNat - 87) := by
  unfold unhexd; rw [if_neg (by omega), if_pos ⟨by omega, by omega⟩]
theorem dig0 {a : UInt8} (h1 : ¬ (48 ≤ (a.toNat : Int) ∧ (a.toNat : Int) ≤ 57)) (h2 : ¬ (97 ≤ (a.toNat : Int) ∧ (a.toNat : Int) ≤ 102)) : unhexd a = none := by
  unfold unhexd; rw [if_neg (by omega), if_neg (by omega)]
theorem unhex2_l {a b : UInt8} (h : unhexd a = none) : unhex2 a b = none := by unfold unhex2; rw [h]
theorem unhex2_r {a b : UInt8} (h : unhexd b = none) : unhex2 a b = none := by
  unfold unhex2; rw [h]; cases unhexd a <;> rfl
theorem unhex2_s {a b : UInt8} {x y : Nat} (h : unhexd a = some x) (h' : unhexd b = some y) : unhex2 a b = some (UInt8.ofNat (x * 16 + y)) := by
  unfold unhex2; rw [h, h']
theorem ret_i {k : IntKind} {a b : Int} (h : a = b) : Value.int k a = .int k b := by rw [h]

set_option maxRecDepth 100000 in
theorem unhex_two (a b : UInt8) (w : World) :
    Calls Tryz.prog 44 #[.string ⟨#[a, b]⟩] w fun e w' => unhexR a b w.heap.size e w' ∧ Below w.heap.size w w' := by
  obtain ⟨i0, hi0, hz0, hz1, hz2⟩ := info_parts infoU8
  obtain ⟨w1, hmk0, hown1, hgr1⟩ := run_make_own (P := Tryz.prog) w w.heap.size 77 5 i0 _ 1 Tryz.underlying77 hi0 hz0 hz1 .i64 .i64 1 (by rw [hz2]; omega) (by simp [maxLen]) (Nat.le_refl _)
  have hmk : (Instr.makeSlice 77 (.int .i64 0) (.int .i64 1)).run Tryz.prog w = .ok (.slice (some ⟨w.heap.size, 0, none⟩) 0 1) w1 := hmk0
  clear hmk0
  have hb1 := below_of_grown_none hgr1
  obtain ⟨s, hs⟩ : ∃ s : ByteArray, ⟨#[a, b]⟩ = s := ⟨_, rfl⟩
  have hsz : s.size = 2 := by rw [← hs]; rfl
  have hs0 : ∀ h, s[0]'h = a := by subst hs; intro h; rfl
  have hs1 : ∀ h, s[1]'h = b := by subst hs; intro h; rfl
  rw [hs]; clear hs
  have x0 : ∀ w : World, (Instr.index 137 (.agg #[.int .u8 a.toNat, .int .u8 b.toNat]) (.int .i64 0)).run Tryz.prog w = .ok (.int .u8 a.toNat) w := fun _ => by kernel_rfl
  have x1 : ∀ w : World, (Instr.index 137 (.agg #[.int .u8 a.toNat, .int .u8 b.toNat]) (.int .i64 1)).run Tryz.prog w = .ok (.int .u8 b.toNat) w := fun _ => by kernel_rfl
  go_enter Tryz.func44, Tryz.ntmps44
  go_wp2; go_step3; go_wp2; go_step3; go_wp2
  go_loopg [4, 5, 6] 1 (fun k wg v i wr => (k = 1 ∧ wg = .bool false ∧ v = .slice (some ⟨w.heap.size, 0, none⟩) 0 1 ∧ i = .int .i64 0 ∧ w1 = wr) ∨ (∃ (v' : Value) (x : UInt8), k = 0 ∧ wg = .bool false ∧ v = v' ∧ i = .int .i64 2 ∧ unhex2 a b = some x ∧ OwnB wr w.heap.size v' [x] ∧ Below w.heap.size w wr))
  case atStart => exact .inl ⟨rfl, rfl, rfl, rfl, rfl⟩
  case round =>
    rcases hrel with ⟨rfl, rfl, rfl, rfl, rfl⟩ | ⟨v', x, rfl, rfl, rfl, rfl, hx, hown2, hb2⟩
    · have hwr : IntKind.i64.wrap 1 = 1 := by decide
      go_wp2
      go_quiet (fail)
      generalize hw2 : w1.drewN _ = w2
      go_wp2
      go_loopg [4, 7, 33] 2 (fun k wg n j wr => w2 = wr ∧ wg = .bool false ∧ ((k = 2 ∧ n = .int .u8 0 ∧ j = .int .i64 0) ∨ (∃ x : Nat, k = 1 ∧ n = .int .u8 (x : Int) ∧ j = .int .i64 1 ∧ unhexd a = some x) ∨ (∃ x y : Nat, k = 0 ∧ n = .int .u8 ((x * 16 + y : Nat) : Int) ∧ j = .int .i64 2 ∧ unhexd a = some x ∧ unhexd b = some y)))
      case atStart => exact ⟨rfl, rfl, .inl ⟨rfl, rfl, rfl⟩⟩
      case round =>
        obtain ⟨rfl, rfl, h⟩ := hrel
        rcases h with ⟨rfl, rfl, rfl⟩ | ⟨x, rfl, rfl, rfl, hx⟩ | ⟨x, y, rfl, rfl, rfl, hx, hy⟩
        · have hb2 : Below w.heap.size w w2 := by rw [← hw2]; exact below_drewN hb1 _
          clear hw2
          go_wp2
          · rename_i h1 h2
            go_roundg 1
            case rel => exact ⟨rfl, rfl, .inr (.inl ⟨a.toNat - 48, rfl, ret_i (by have := or_u8 0 (a.toNat - 48) (by omega) (by omega); rw [Int.ofNat_sub (by omega)] at this; simpa using this), rfl, dig1 h1 h2⟩)⟩
            case measure => omega
          · rename_i h1 h2 h3 h4
            go_roundg 1
            case rel => exact ⟨rfl, rfl, .inr (.inl ⟨a.toNat - 87, rfl, ret_i (by have := or_u8 0 (a.toNat - 87) (by omega) (by omega); rw [show ((a.toNat : Int) - 97 + 10) = ((a.toNat - 87 : Nat) : Int) by omega]; simpa using this), rfl, dig2 h3 h4⟩)⟩
            case measure => omega
          all_goals
            try rw [Exit.noGoto_ret]
            go_ret2
            exact ⟨unhexR_none (unhex2_l (dig0 (by omega) (by omega))), hb2⟩
        · have hb2 : Below w.heap.size w w2 := by rw [← hw2]; exact below_drewN hb1 _
          clear hw2
          have hx16 := unhexd_lt hx
          have HX := Lib.hid hx; clear hx
          go_wp2
          · rename_i h1 h2
            go_roundg 0
            case rel => exact ⟨rfl, rfl, .inr (.inr ⟨x, b.toNat - 48, rfl, ret_i (by have := or_u8 x (b.toNat - 48) (by omega) (by omega); rw [show ((b.toNat : Int) - 48) = ((b.toNat - 48 : Nat) : Int) by omega]; simpa using this), rfl, HX.out, dig1 h1 h2⟩)⟩
            case measure => omega
          · rename_i h1 h2 h3 h4
            go_roundg 0
            case rel => exact ⟨rfl, rfl, .inr (.inr ⟨x, b.toNat - 87, rfl, ret_i (by have := or_u8 x (b.toNat - 87) (by omega) (by omega); rw [show ((b.toNat : Int) - 97 + 10) = ((b.toNat - 87 : Nat) : Int) by omega]; simpa using this), rfl, HX.out, dig2 h3 h4⟩)⟩
            case measure => omega
          all_goals
            try rw [Exit.noGoto_ret]
            go_ret2
            exact ⟨unhexR_none (unhex2_r (dig0 (by omega) (by omega))), hb2⟩
        · have hb2 : Below w.heap.size w w2 := by rw [← hw2]; exact below_drewN hb1 _
          have hown2 : OwnB w2 w.heap.size (.slice (some ⟨w.heap.size, 0, none⟩) 0 1) [] := by rw [← hw2]; exact hown1
          clear hw2
          have h2s := unhex2_s hx hy
          have hce : cellsB [UInt8.ofNat (x * 16 + y)] = [.int .u8 ((x : Int) * 16 + y)] := by
            have h1 := unhexd_lt hx
            have h2 := unhexd_lt hy
            have : (UInt8.ofNat (x * 16 + y)).toNat = x * 16 + y := by rw [UInt8.toNat_ofNat']; omega
            simp only [cellsB, List.map_cons, List.map_nil, this]
            simp
          have hnl := fun j u hu => news_lit w2 [UInt8.ofNat (x * 16 + y)] j u hu
          rw [hce] at hnl
          have H2 := Lib.hid h2s; clear h2s hx hy
          have HC := Lib.hid hce; clear hce
          go_wp2_with (at_builtin; refine wpList_append_b rfl (.tmp 62) (.tmp 64) rfl w.heap.size (.slice (some ⟨w.heap.size, 0, none⟩) 0 1) [] ⟨w2.heap.size, 0, none⟩ 1 1 [UInt8.ofNat (x * 16 + y)] rfl rfl (by exact World.ownsRow.alloc hown2 _) (by simp) (by have := hb2.size; simp; omega) rfl (by omega) (by intro j u hu; rw [HC.out] at hu; exact hnl j u hu) ?_; intro v3 w3 hown3 hgr3)
          have hb3 : Below w.heap.size w w3 := ((hb2.alloc hb2.size _)).grown hgr3 (by have := hb2.size; simp; omega) (fun z hz => (hown2.lt z hz).1)
          go_roundg 0
          case rel => exact .inr ⟨_, _, rfl, rfl, rfl, rfl, H2.out, hown3, hb3⟩
          case measure => omega
    · have HX := Lib.hid hx; clear hx
      go_wp2
      try rw [Exit.noGoto_ret]
      go_ret2
      exact ⟨unhexR_some HX.out hown2, hb2⟩
end Go.Proofs.YtgplaeopcejmoaaGreatDoor
