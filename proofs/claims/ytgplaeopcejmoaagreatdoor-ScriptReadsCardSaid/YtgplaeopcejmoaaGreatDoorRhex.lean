/- The walks of the document's spelled letter, and its reading of two letters. -/
import Derived.Test.YtgplaeopcejmoaaGreatDoorRefw
import Derived.Test.YtgplaeopcejmoaaGreatDoorLine
namespace Go.Proofs.YtgplaeopcejmoaaGreatDoor
open Go.RowKit

def spellV (c : UInt8) : Int := match unhexd c with
  | some x => x
  | none => -1
theorem spellV_some {c : UInt8} {k : Nat} (hk : k < 16) (h : hexd k = c) : spellV c = k := by
  unfold spellV; rw [← h, unhexd_hexd hk]
theorem spellV_none {c : UInt8} (h : ∀ j, j < 16 → hexd j ≠ c) : spellV c = -1 := by
  unfold spellV
  cases e : unhexd c with
  | none => rfl
  | some n => exact absurd (hexd_unhexd e) (h n (unhexd_lt e))
theorem u8_eq {a b : UInt8} (h : ((a.toNat : Int) == (b.toNat : Int)) = true) : a = b := by
  have h1 := eq_of_beq h
  exact UInt8.toNat_inj.1 (by omega)
theorem u8_ne {a b : UInt8} (h : ((a.toNat : Int) == (b.toNat : Int)) = false) : a ≠ b := by
  intro e; subst e; simp at h

set_option maxRecDepth 100000 in
theorem spelled_any (c : UInt8) (w : World) : Calls Tryz.prog 87 #[.int .u8 c.toNat] w fun e w' => e = .returned (.int .i64 (spellV c)) ∧ w = w' := by
  obtain ⟨L, hL⟩ : ∃ L : ByteArray, ⟨#[48, 49, 50, 51, 52, 53, 54, 55, 56, 57, 97, 98, 99, 100, 101, 102]⟩ = L := ⟨_, rfl⟩
  have hLs : L.size = 16 := by subst hL; rfl
  have hLk : ∀ k : Nat, k < 16 → ∀ h, L[k]'h = hexd k := by
    subst hL
    intro k hk h
    have : ∀ k : Fin 16, (#[48, 49, 50, 51, 52, 53, 54, 55, 56, 57, 97, 98, 99, 100, 101, 102] : Array UInt8)[k.val]? = some (hexd k.val) := by decide
    have h2 := this ⟨k, hk⟩
    obtain ⟨_, h3⟩ := Array.getElem?_eq_some_iff.1 h2
    exact h3
  have HL := Lib.hid hL; clear hL
  have HK := Lib.hid hLk; clear hLk
  go_enter Tryz.func87, Tryz.ntmps87
  go_wp2_with (go_at_call 103; refine (letters_any _).mono ?_; rintro e w1 ⟨rfl, rfl⟩; rw [HL.out])
  go_loopw [4] (fun i wr => ∃ k : Nat, k ≤ 16 ∧ i = .int .i64 k ∧ w = wr ∧ ∀ j, j < k → hexd j ≠ c) (fun i _ => 16 - (intOf i).toNat)
  case atStart => exact ⟨0, by omega, rfl, rfl, fun j hj => by omega⟩
  case round =>
    obtain ⟨k, hk, rfl, rfl, hno⟩ := hrel
    have HN := Lib.hid hno; clear hno
    by_cases hlt : k < 16
    · obtain ⟨d, hd⟩ : ∃ d, hexd k = d := ⟨_, rfl⟩
      have hci : ∀ h, L[k]'h = d := fun h => (HK.out k hlt h).trans hd
      have HD := Lib.hid hd; clear hd
      cases hdc : ((d.toNat : Int) == (c.toNat : Int))
      · go_wp2
        go_roundw
        case rel => exact ⟨k + 1, by omega, by go_num, by trivial, fun j hj => by
          by_cases e : j = k
          · subst e; rw [HD.out]; exact u8_ne hdc
          · exact HN.out j (by omega)⟩
        case measure => simp [intOf]; omega
      · have he := spellV_some hlt (HD.out.trans (u8_eq hdc))
        go_wp2
        go_ret
        refine ⟨?_, rfl⟩
        rw [he]; rfl
    · obtain rfl : k = 16 := by omega
      have he := spellV_none HN.out
      go_wp2
      go_ret
      refine ⟨?_, rfl⟩
      rw [he]; rfl
theorem spelled_s {c : UInt8} {x : Nat} (h : unhexd c = some x) (w : World) : Calls Tryz.prog 87 #[.int .u8 c.toNat] w fun e w' => e = .returned (.int .i64 (x : Int)) ∧ w = w' :=
  (spelled_any c w).mono fun _ _ ⟨he, hw⟩ => ⟨by rw [he]; unfold spellV; rw [h], hw⟩
theorem spelled_n {c : UInt8} (h : unhexd c = none) (w : World) : Calls Tryz.prog 87 #[.int .u8 c.toNat] w fun e w' => e = .returned (.int .i64 (-1)) ∧ w = w' :=
  (spelled_any c w).mono fun _ _ ⟨he, hw⟩ => ⟨by rw [he]; unfold spellV; rw [h], hw⟩

/-- what two letters spell, as the document's function hands it back -/
def refunR (a b : UInt8) (e : Ending) (w' : World) : Prop := match unhex2 a b with
  | some x => ∃ ad, e = .returned (.tuple #[.slice (some ad) 1 1, .bool true]) ∧ w'.cell? ad = some (.int .u8 x.toNat)
  | none => ∃ v, e = .returned (.tuple #[v, .bool false])
theorem refunR_none {a b : UInt8} {v : Value} {w' : World} (h : unhex2 a b = none) : refunR a b (.returned (.tuple #[v, .bool false])) w' := by
  unfold refunR; rw [h]; exact ⟨v, rfl⟩
theorem refunR_some {a b x : UInt8} {g : Nat} {w' : World} (h : unhex2 a b = some x) (ho : Blk w' g 5 [.int .u8 x.toNat]) : refunR a b (.returned (.tuple #[.slice (some ⟨g, 0, none⟩) 1 1, .bool true])) w' := by
  unfold refunR; rw [h]; exact ⟨_, rfl, ho.cell 0⟩
theorem blk_one {w : World} {g : Nat} {i j : Int} (h : Blk w g 5 [.int .u8 i]) (e : i = j) : Blk w g 5 [.int .u8 j] := e ▸ h

set_option maxRecDepth 100000 in
set_option maxHeartbeats 1000000 in
theorem refunhex_two (a b : UInt8) (w : World) :
    Calls Tryz.prog 45 #[.string ⟨#[a, b]⟩] w fun e w' => refunR a b e w' ∧ Below w.heap.size w w' := by
  obtain ⟨s, hs⟩ : ∃ s : ByteArray, ⟨#[a, b]⟩ = s := ⟨_, rfl⟩
  have hsz : s.size = 2 := by rw [← hs]; rfl
  have hs0 : ∀ h, s[0]'h = a := by subst hs; intro h; rfl
  have hs1 : ∀ h, s[1]'h = b := by subst hs; intro h; rfl
  rw [hs]; clear hs
  have hmk0 := run_make_row' (P := Tryz.prog) 77 5 (.int .u8 0) 1 Tryz.underlying77 infoU8 rfl .i64 .i64 1 (by omega) (by omega) w
  have hmc : madeCells #[Value.int .u8 0] 1 = #[.int .u8 0] := by simp [madeCells]; exact ⟨0, rfl, rfl⟩
  rw [hmc] at hmk0
  have hmk : (Instr.makeSlice 77 (.int .i64 1) (.int .i64 1)).run Tryz.prog w = .ok (.slice (some ⟨w.heap.size, 0, none⟩) 1 1) (w.alloc (.cells #[.int .u8 0] 5)) := hmk0
  clear hmk0
  go_enter Tryz.func45, Tryz.ntmps45
  go_wp2
  go_loopw [5] (fun i wr => Below w.heap.size w wr ∧ ((i = .int .i64 0 ∧ Blk wr w.heap.size 5 [.int .u8 0]) ∨ (∃ x : Nat, i = .int .i64 1 ∧ unhexd a = some x ∧ Blk wr w.heap.size 5 [.int .u8 x]) ∨ (∃ x y : Nat, i = .int .i64 2 ∧ unhexd a = some x ∧ unhexd b = some y ∧ Blk wr w.heap.size 5 [.int .u8 ((x * 16 + y : Nat) : Int)]))) (fun i _ => 2 - (intOf i).toNat)
  case atStart => exact ⟨(Below.refl _ _).alloc (Nat.le_refl _) _, .inl ⟨rfl, Blk.new _ _ _⟩⟩
  case round =>
    obtain ⟨hb, ⟨rfl, hg⟩ | ⟨x, rfl, hx, hg⟩ | ⟨x, y, rfl, hx, hy, hg⟩⟩ := hrel
    · have hc := hg.cell 0
      have hf := hg.frozen 0
      cases hx : unhexd a with
      | none =>
        go_wp2_with (go_at_call 87; refine (spelled_n hx _).mono ?_; rintro e w1 ⟨rfl, rfl⟩)
        go_ret2
        exact ⟨refunR_none (unhex2_l hx), hb⟩
      | some x =>
        have h16 := unhexd_lt hx
        go_wp2_with (go_at_call 87; refine (spelled_s hx _).mono ?_; rintro e w1 ⟨rfl, rfl⟩)
        go_roundw
        case rel => exact ⟨hb.setCell (by simp) _, .inr (.inl ⟨x, rfl, by first | rfl | exact hx, blk_one (hg.setCell 0 _ (by simp)) (by first | rfl | omega | (simp only [IntKind.wrap_u8]; omega))⟩)⟩
        case measure => simp [intOf]
    · have hc := hg.cell 0
      have hf := hg.frozen 0
      have hx16 := unhexd_lt hx
      cases hy : unhexd b with
      | none =>
        go_wp2_with (go_at_call 87; refine (spelled_n hy _).mono ?_; rintro e w1 ⟨rfl, rfl⟩)
        go_ret2
        exact ⟨refunR_none (unhex2_r hy), hb⟩
      | some y =>
        have h16 := unhexd_lt hy
        go_wp2_with (go_at_call 87; refine (spelled_s hy _).mono ?_; rintro e w1 ⟨rfl, rfl⟩)
        go_roundw
        case rel => exact ⟨hb.setCell (by simp) _, .inr (.inr ⟨x, y, rfl, by first | rfl | exact hx, by first | rfl | exact hy, blk_one (hg.setCell 0 _ (by simp)) (by first | rfl | omega | (simp only [IntKind.wrap_u8]; omega))⟩)⟩
        case measure => simp [intOf]
    · have h2 := unhex2_s hx hy
      have h1 := unhexd_lt hx
      have h3 := unhexd_lt hy
      have ht : (UInt8.ofNat (x * 16 + y)).toNat = x * 16 + y := by rw [UInt8.toNat_ofNat']; omega
      go_wp2
      go_ret2
      exact ⟨refunR_some h2 (by rw [ht]; exact hg), hb⟩
end Go.Proofs.YtgplaeopcejmoaaGreatDoor
