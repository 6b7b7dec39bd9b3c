/- The walk of the document's has: is a letter in a text? -/
import Derived.Test.YtgplaeopcejmoaaGreatDoorByte
namespace Go.Proofs.YtgplaeopcejmoaaGreatDoor
open Go.RowKit

def hasB (p : ByteArray) (c : UInt8) : Bool := p.data.toList.any fun x => (x.toNat : Int) == (c.toNat : Int)
theorem any_take_no {l : Bs} {f : UInt8 → Bool} {k : Nat} {x : UInt8} (h : l[k]? = some x) (ht : (l.take k).any f = false) (hx : f x = false) : (l.take (k + 1)).any f = false := by
  obtain ⟨hl, h⟩ := List.getElem?_eq_some_iff.1 h
  rw [List.take_succ_eq_append_getElem hl, List.any_append, ht, h]
  simp [hx]
theorem any_yes {l : Bs} {f : UInt8 → Bool} {k : Nat} {x : UInt8} (h : l[k]? = some x) (hx : f x = true) : l.any f = true :=
  List.any_eq_true.2 ⟨x, List.mem_of_getElem? h, hx⟩
set_option maxRecDepth 100000 in
theorem rhas_any (p : ByteArray) (c : UInt8) (hp : p.size ≤ 1000000) (w : World) :
    Calls Tryz.prog 61 #[.string p, .int .u8 c.toNat] w fun e w' => e = .returned (.bool (hasB p c)) ∧ w = w' := by
  have hlen : p.data.toList.length = p.size := by rw [Array.length_toList]; rfl
  have HL := Lib.hid hlen; clear hlen
  go_enter Tryz.func61, Tryz.ntmps61
  go_wp2
  go_loop [5] (fun i => ∃ k : Nat, k ≤ p.size ∧ i = .int .i64 k ∧ Hid ((p.data.toList.take k).any (fun x => (x.toNat : Int) == (c.toNat : Int)) = false)) (fun i => p.size - (intOf i).toNat)
  case atStart => exact ⟨0, Nat.zero_le _, rfl, Lib.hid rfl⟩
  case round =>
    obtain ⟨k, hk, rfl, HA⟩ := hrel
    by_cases hlt : k < p.size
    · obtain ⟨x, hx⟩ : ∃ x : UInt8, p[k] = x := ⟨_, rfl⟩
      have hci : ∀ h, p[k]'h = x := fun _ => hx
      have hg : p.data.toList[k]? = some x := by
        have : k < p.data.toList.length := by rw [HL.out]; exact hlt
        rw [List.getElem?_eq_getElem this, ← hx]; rfl
      clear hx
      have HG := Lib.hid hg; clear hg
      cases hxc : ((x.toNat : Int) == (c.toNat : Int))
      · have HN := Lib.hid (any_take_no (f := fun x => (x.toNat : Int) == (c.toNat : Int)) HG.out HA.out hxc)
        go_wp2
        go_round
        case rel => exact ⟨k + 1, by omega, by go_num, HN⟩
        case measure => simp [intOf]; omega
      · have HN := Lib.hid (any_yes (f := fun x => (x.toNat : Int) == (c.toNat : Int)) HG.out hxc)
        go_wp2
        go_ret
        exact ⟨ret_bool HN.out.symm, rfl⟩
    · go_wp2
      go_ret
      refine ⟨ret_bool ?_, rfl⟩
      have := HA.out
      rw [List.take_of_length_le (by rw [HL.out]; omega)] at this
      exact this.symm
end Go.Proofs.YtgplaeopcejmoaaGreatDoor
