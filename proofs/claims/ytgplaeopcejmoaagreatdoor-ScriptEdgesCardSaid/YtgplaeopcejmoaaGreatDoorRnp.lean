/- The walk of the document's Name at every number. The walk of the document's ActName at every number. The walk of the document's has: is a letter in a text? -/
import Derived.Test.YtgplaeopcejmoaaGreatDoorIter
import Derived.Deep.QuietTactic
import Derived.Test.YtgplaeopcejmoaaGreatDoorAct
import Derived.Test.YtgplaeopcejmoaaGreatDoorByte
namespace Go.Proofs.YtgplaeopcejmoaaGreatDoor
open Go.RowKit

def rnpParts : List ByteArray := [⟨#[]⟩, ⟨#[110, 107]⟩, ⟨#[110, 107, 116]⟩, ⟨#[110, 107, 118]⟩, ⟨#[110, 107]⟩, ⟨#[110]⟩, ⟨#[110, 108]⟩, ⟨#[110, 108]⟩, ⟨#[110]⟩, ⟨#[115, 108]⟩, ⟨#[]⟩, ⟨#[]⟩]
def rnpPt (x : Fin 12) : ByteArray := (rnpParts[x.val]?).getD ⟨#[]⟩
def rnpR (x : Fin 12) (w : World) (e : Ending) (w' : World) : Prop := e = .returned (.tuple #[.string (nmAt x), .string (rnpPt x)]) ∧ Below w.heap.size w w'
set_option maxRecDepth 100000 in
theorem rnp_0 (w : World) : Calls Tryz.prog 21 #[.int .i64 1] w (rnpR 0 w) := by
  have hB : Below w.heap.size w w := Below.refl _ _
  go_enter Tryz.func21, Tryz.ntmps21
  go_wp2
  go_quiet (fail)
  go_wp2
  go_ret2
  exact ⟨rfl, below_drewN ((hB.alloc (Nat.le_refl _) _).alloc (by simp) _) _⟩
set_option maxRecDepth 100000 in
theorem rnp_1 (w : World) : Calls Tryz.prog 21 #[.int .i64 2] w (rnpR 1 w) := by
  have hB : Below w.heap.size w w := Below.refl _ _
  go_enter Tryz.func21, Tryz.ntmps21
  go_wp2
  go_quiet (fail)
  go_wp2
  go_ret2
  exact ⟨rfl, below_drewN ((hB.alloc (Nat.le_refl _) _).alloc (by simp) _) _⟩
set_option maxRecDepth 100000 in
theorem rnp_2 (w : World) : Calls Tryz.prog 21 #[.int .i64 3] w (rnpR 2 w) := by
  have hB : Below w.heap.size w w := Below.refl _ _
  go_enter Tryz.func21, Tryz.ntmps21
  go_wp2
  go_quiet (fail)
  go_wp2
  go_ret2
  exact ⟨rfl, below_drewN ((hB.alloc (Nat.le_refl _) _).alloc (by simp) _) _⟩
set_option maxRecDepth 100000 in
theorem rnp_3 (w : World) : Calls Tryz.prog 21 #[.int .i64 4] w (rnpR 3 w) := by
  have hB : Below w.heap.size w w := Below.refl _ _
  go_enter Tryz.func21, Tryz.ntmps21
  go_wp2
  go_quiet (fail)
  go_wp2
  go_ret2
  exact ⟨rfl, below_drewN ((hB.alloc (Nat.le_refl _) _).alloc (by simp) _) _⟩
set_option maxRecDepth 100000 in
theorem rnp_4 (w : World) : Calls Tryz.prog 21 #[.int .i64 5] w (rnpR 4 w) := by
  have hB : Below w.heap.size w w := Below.refl _ _
  go_enter Tryz.func21, Tryz.ntmps21
  go_wp2
  go_quiet (fail)
  go_wp2
  go_ret2
  exact ⟨rfl, below_drewN ((hB.alloc (Nat.le_refl _) _).alloc (by simp) _) _⟩
set_option maxRecDepth 100000 in
theorem rnp_5 (w : World) : Calls Tryz.prog 21 #[.int .i64 6] w (rnpR 5 w) := by
  have hB : Below w.heap.size w w := Below.refl _ _
  go_enter Tryz.func21, Tryz.ntmps21
  go_wp2
  go_quiet (fail)
  go_wp2
  go_ret2
  exact ⟨rfl, below_drewN ((hB.alloc (Nat.le_refl _) _).alloc (by simp) _) _⟩
set_option maxRecDepth 100000 in
theorem rnp_6 (w : World) : Calls Tryz.prog 21 #[.int .i64 7] w (rnpR 6 w) := by
  have hB : Below w.heap.size w w := Below.refl _ _
  go_enter Tryz.func21, Tryz.ntmps21
  go_wp2
  go_quiet (fail)
  go_wp2
  go_ret2
  exact ⟨rfl, below_drewN ((hB.alloc (Nat.le_refl _) _).alloc (by simp) _) _⟩
set_option maxRecDepth 100000 in
theorem rnp_7 (w : World) : Calls Tryz.prog 21 #[.int .i64 8] w (rnpR 7 w) := by
  have hB : Below w.heap.size w w := Below.refl _ _
  go_enter Tryz.func21, Tryz.ntmps21
  go_wp2
  go_quiet (fail)
  go_wp2
  go_ret2
  exact ⟨rfl, below_drewN ((hB.alloc (Nat.le_refl _) _).alloc (by simp) _) _⟩
set_option maxRecDepth 100000 in
theorem rnp_8 (w : World) : Calls Tryz.prog 21 #[.int .i64 9] w (rnpR 8 w) := by
  have hB : Below w.heap.size w w := Below.refl _ _
  go_enter Tryz.func21, Tryz.ntmps21
  go_wp2
  go_quiet (fail)
  go_wp2
  go_ret2
  exact ⟨rfl, below_drewN ((hB.alloc (Nat.le_refl _) _).alloc (by simp) _) _⟩
set_option maxRecDepth 100000 in
theorem rnp_9 (w : World) : Calls Tryz.prog 21 #[.int .i64 10] w (rnpR 9 w) := by
  have hB : Below w.heap.size w w := Below.refl _ _
  go_enter Tryz.func21, Tryz.ntmps21
  go_wp2
  go_quiet (fail)
  go_wp2
  go_ret2
  exact ⟨rfl, below_drewN ((hB.alloc (Nat.le_refl _) _).alloc (by simp) _) _⟩
set_option maxRecDepth 100000 in
theorem rnp_10 (w : World) : Calls Tryz.prog 21 #[.int .i64 11] w (rnpR 10 w) := by
  have hB : Below w.heap.size w w := Below.refl _ _
  go_enter Tryz.func21, Tryz.ntmps21
  go_wp2
  go_quiet (fail)
  go_wp2
  go_ret2
  exact ⟨rfl, below_drewN ((hB.alloc (Nat.le_refl _) _).alloc (by simp) _) _⟩
set_option maxRecDepth 100000 in
theorem rnp_11 (w : World) : Calls Tryz.prog 21 #[.int .i64 12] w (rnpR 11 w) := by
  have hB : Below w.heap.size w w := Below.refl _ _
  go_enter Tryz.func21, Tryz.ntmps21
  go_wp2
  go_quiet (fail)
  go_wp2
  go_ret2
  exact ⟨rfl, below_drewN ((hB.alloc (Nat.le_refl _) _).alloc (by simp) _) _⟩
theorem rnp_in : (x : Fin 12) → (w : World) → Calls Tryz.prog 21 #[.int .i64 (1 + (x.val : Int))] w (rnpR x w)
  | ⟨0, _⟩, w => rnp_0 w
  | ⟨1, _⟩, w => rnp_1 w
  | ⟨2, _⟩, w => rnp_2 w
  | ⟨3, _⟩, w => rnp_3 w
  | ⟨4, _⟩, w => rnp_4 w
  | ⟨5, _⟩, w => rnp_5 w
  | ⟨6, _⟩, w => rnp_6 w
  | ⟨7, _⟩, w => rnp_7 w
  | ⟨8, _⟩, w => rnp_8 w
  | ⟨9, _⟩, w => rnp_9 w
  | ⟨10, _⟩, w => rnp_10 w
  | ⟨11, _⟩, w => rnp_11 w
set_option maxRecDepth 100000 in
theorem rnp_out (k : Int) (h : k < 1 ∨ 12 < k) (w : World) : Calls Tryz.prog 21 #[.int .i64 k] w fun e w' => e = .returned (.tuple #[.string ⟨#[]⟩, .string ⟨#[]⟩]) ∧ Below w.heap.size w w' := by
  have hB : Below w.heap.size w w := Below.refl _ _
  rcases h with h | h
  · go_enter Tryz.func21, Tryz.ntmps21
    go_wp2
    go_ret2
    exact ⟨rfl, (hB.alloc (Nat.le_refl _) _).alloc (by simp) _⟩
  · have h' : ¬ k < 1 := by omega
    go_enter Tryz.func21, Tryz.ntmps21
    go_wp2
    go_ret2
    exact ⟨rfl, (hB.alloc (Nat.le_refl _) _).alloc (by simp) _⟩
end Go.Proofs.YtgplaeopcejmoaaGreatDoor
namespace Go.Proofs.YtgplaeopcejmoaaGreatDoor
open Go.RowKit

def rapParts : List ByteArray := [⟨#[100, 111]⟩, ⟨#[110]⟩, ⟨#[110]⟩, ⟨#[110]⟩, ⟨#[100]⟩, ⟨#[100, 110]⟩, ⟨#[100, 112]⟩, ⟨#[100, 110, 112]⟩, ⟨#[100, 115]⟩, ⟨#[100]⟩, ⟨#[100, 115]⟩, ⟨#[100, 110]⟩]
def rapPt (x : Fin 12) : ByteArray := (rapParts[x.val]?).getD ⟨#[]⟩
def rapNm (x : Fin 12) : ByteArray := (actNames[x.val]?).getD ⟨#[]⟩
def rapR (x : Fin 12) (w : World) (e : Ending) (w' : World) : Prop := e = .returned (.tuple #[.string (rapNm x), .string (rapPt x)]) ∧ Below w.heap.size w w'
set_option maxRecDepth 100000 in
theorem rap_0 (w : World) : Calls Tryz.prog 71 #[.int .i64 1] w (rapR 0 w) := by
  have hB : Below w.heap.size w w := Below.refl _ _
  go_enter Tryz.func71, Tryz.ntmps71
  go_wp2
  go_quiet (fail)
  go_wp2
  go_ret2
  exact ⟨rfl, below_drewN ((hB.alloc (Nat.le_refl _) _).alloc (by simp) _) _⟩
set_option maxRecDepth 100000 in
theorem rap_1 (w : World) : Calls Tryz.prog 71 #[.int .i64 2] w (rapR 1 w) := by
  have hB : Below w.heap.size w w := Below.refl _ _
  go_enter Tryz.func71, Tryz.ntmps71
  go_wp2
  go_quiet (fail)
  go_wp2
  go_ret2
  exact ⟨rfl, below_drewN ((hB.alloc (Nat.le_refl _) _).alloc (by simp) _) _⟩
set_option maxRecDepth 100000 in
theorem rap_2 (w : World) : Calls Tryz.prog 71 #[.int .i64 3] w (rapR 2 w) := by
  have hB : Below w.heap.size w w := Below.refl _ _
  go_enter Tryz.func71, Tryz.ntmps71
  go_wp2
  go_quiet (fail)
  go_wp2
  go_ret2
  exact ⟨rfl, below_drewN ((hB.alloc (Nat.le_refl _) _).alloc (by simp) _) _⟩
set_option maxRecDepth 100000 in
theorem rap_3 (w : World) : Calls Tryz.prog 71 #[.int .i64 4] w (rapR 3 w) := by
  have hB : Below w.heap.size w w := Below.refl _ _
  go_enter Tryz.func71, Tryz.ntmps71
  go_wp2
  go_quiet (fail)
  go_wp2
  go_ret2
  exact ⟨rfl, below_drewN ((hB.alloc (Nat.le_refl _) _).alloc (by simp) _) _⟩
set_option maxRecDepth 100000 in
theorem rap_4 (w : World) : Calls Tryz.prog 71 #[.int .i64 5] w (rapR 4 w) := by
  have hB : Below w.heap.size w w := Below.refl _ _
  go_enter Tryz.func71, Tryz.ntmps71
  go_wp2
  go_quiet (fail)
  go_wp2
  go_ret2
  exact ⟨rfl, below_drewN ((hB.alloc (Nat.le_refl _) _).alloc (by simp) _) _⟩
set_option maxRecDepth 100000 in
theorem rap_5 (w : World) : Calls Tryz.prog 71 #[.int .i64 6] w (rapR 5 w) := by
  have hB : Below w.heap.size w w := Below.refl _ _
  go_enter Tryz.func71, Tryz.ntmps71
  go_wp2
  go_quiet (fail)
  go_wp2
  go_ret2
  exact ⟨rfl, below_drewN ((hB.alloc (Nat.le_refl _) _).alloc (by simp) _) _⟩
set_option maxRecDepth 100000 in
theorem rap_6 (w : World) : Calls Tryz.prog 71 #[.int .i64 7] w (rapR 6 w) := by
  have hB : Below w.heap.size w w := Below.refl _ _
  go_enter Tryz.func71, Tryz.ntmps71
  go_wp2
  go_quiet (fail)
  go_wp2
  go_ret2
  exact ⟨rfl, below_drewN ((hB.alloc (Nat.le_refl _) _).alloc (by simp) _) _⟩
set_option maxRecDepth 100000 in
theorem rap_7 (w : World) : Calls Tryz.prog 71 #[.int .i64 8] w (rapR 7 w) := by
  have hB : Below w.heap.size w w := Below.refl _ _
  go_enter Tryz.func71, Tryz.ntmps71
  go_wp2
  go_quiet (fail)
  go_wp2
  go_ret2
  exact ⟨rfl, below_drewN ((hB.alloc (Nat.le_refl _) _).alloc (by simp) _) _⟩
set_option maxRecDepth 100000 in
theorem rap_8 (w : World) : Calls Tryz.prog 71 #[.int .i64 9] w (rapR 8 w) := by
  have hB : Below w.heap.size w w := Below.refl _ _
  go_enter Tryz.func71, Tryz.ntmps71
  go_wp2
  go_quiet (fail)
  go_wp2
  go_ret2
  exact ⟨rfl, below_drewN ((hB.alloc (Nat.le_refl _) _).alloc (by simp) _) _⟩
set_option maxRecDepth 100000 in
theorem rap_9 (w : World) : Calls Tryz.prog 71 #[.int .i64 10] w (rapR 9 w) := by
  have hB : Below w.heap.size w w := Below.refl _ _
  go_enter Tryz.func71, Tryz.ntmps71
  go_wp2
  go_quiet (fail)
  go_wp2
  go_ret2
  exact ⟨rfl, below_drewN ((hB.alloc (Nat.le_refl _) _).alloc (by simp) _) _⟩
set_option maxRecDepth 100000 in
theorem rap_10 (w : World) : Calls Tryz.prog 71 #[.int .i64 11] w (rapR 10 w) := by
  have hB : Below w.heap.size w w := Below.refl _ _
  go_enter Tryz.func71, Tryz.ntmps71
  go_wp2
  go_quiet (fail)
  go_wp2
  go_ret2
  exact ⟨rfl, below_drewN ((hB.alloc (Nat.le_refl _) _).alloc (by simp) _) _⟩
set_option maxRecDepth 100000 in
theorem rap_11 (w : World) : Calls Tryz.prog 71 #[.int .i64 12] w (rapR 11 w) := by
  have hB : Below w.heap.size w w := Below.refl _ _
  go_enter Tryz.func71, Tryz.ntmps71
  go_wp2
  go_quiet (fail)
  go_wp2
  go_ret2
  exact ⟨rfl, below_drewN ((hB.alloc (Nat.le_refl _) _).alloc (by simp) _) _⟩
theorem rap_in : (x : Fin 12) → (w : World) → Calls Tryz.prog 71 #[.int .i64 (1 + (x.val : Int))] w (rapR x w)
  | ⟨0, _⟩, w => rap_0 w
  | ⟨1, _⟩, w => rap_1 w
  | ⟨2, _⟩, w => rap_2 w
  | ⟨3, _⟩, w => rap_3 w
  | ⟨4, _⟩, w => rap_4 w
  | ⟨5, _⟩, w => rap_5 w
  | ⟨6, _⟩, w => rap_6 w
  | ⟨7, _⟩, w => rap_7 w
  | ⟨8, _⟩, w => rap_8 w
  | ⟨9, _⟩, w => rap_9 w
  | ⟨10, _⟩, w => rap_10 w
  | ⟨11, _⟩, w => rap_11 w
set_option maxRecDepth 100000 in
theorem rap_out (k : Int) (h : k < 1 ∨ 12 < k) (w : World) : Calls Tryz.prog 71 #[.int .i64 k] w fun e w' => e = .returned (.tuple #[.string ⟨#[]⟩, .string ⟨#[]⟩]) ∧ Below w.heap.size w w' := by
  have hB : Below w.heap.size w w := Below.refl _ _
  rcases h with h | h
  · go_enter Tryz.func71, Tryz.ntmps71
    go_wp2
    go_ret2
    exact ⟨rfl, (hB.alloc (Nat.le_refl _) _).alloc (by simp) _⟩
  · have h' : ¬ k < 1 := by omega
    go_enter Tryz.func71, Tryz.ntmps71
    go_wp2
    go_ret2
    exact ⟨rfl, (hB.alloc (Nat.le_refl _) _).alloc (by simp) _⟩
end Go.Proofs.YtgplaeopcejmoaaGreatDoor
namespace Go.Proofs.YtgplaeopcejmoaaGreatDoor
open Go.RowKit

def hasB (p : ByteArray) (c : UInt8) : Bool := p.data.toList.any fun x => (x.toNat : Int) == (c.toNat : Int)
theorem any_take_no {l : Bs} {f : UInt8 → Bool} {k : Nat} {x : UInt8} (h : l[k]? = some x) (ht : (l.take k).any f = false) (hx : f x = false) : (l.take (k + 1)).any f = false := by
  obtain ⟨hl, h⟩ := List.getElem?_eq_some_iff.1 h
  rw [List.take_succ_eq_append_getElem hl, List.any_append, ht, h]
  simp [hx]
theorem any_yes {l : Bs} {f : UInt8 → Bool} {k : Nat} {x : UInt8} (h : l[k]? = some x) (hx : f x = true) : l.any f = true :=
  List.any_eq_true.2 ⟨x, List.mem_of_getElem? h, hx⟩
set_option maxRecDepth 100000 in
theorem rhas_any (p : ByteArray) (c : UInt8) (hp : p.size ≤ 1000000) (w : World) :
    Calls Tryz.prog 61 #[.string p, .int .u8 c.toNat] w fun e w' => e = .returned (.bool (hasB p c)) ∧ w = w' := by
  have hlen : p.data.toList.length = p.size := by rw [Array.length_toList]; rfl
  have HL := Lib.hid hlen; clear hlen
  go_enter Tryz.func61, Tryz.ntmps61
  go_wp2
  go_loop [5] (fun i => ∃ k : Nat, k ≤ p.size ∧ i = .int .i64 k ∧ Hid ((p.data.toList.take k).any (fun x => (x.toNat : Int) == (c.toNat : Int)) = false)) (fun i => p.size - (intOf i).toNat)
  case atStart => exact ⟨0, Nat.zero_le _, rfl, Lib.hid rfl⟩
  case round =>
    obtain ⟨k, hk, rfl, HA⟩ := hrel
    by_cases hlt : k < p.size
    · obtain ⟨x, hx⟩ : ∃ x : UInt8, p[k] = x := ⟨_, rfl⟩
      have hci : ∀ h, p[k]'h = x := fun _ => hx
      have hg : p.data.toList[k]? = some x := by
        have : k < p.data.toList.length := by rw [HL.out]; exact hlt
        rw [List.getElem?_eq_getElem this, ← hx]; rfl
      clear hx
      have HG := Lib.hid hg; clear hg
      cases hxc : ((x.toNat : Int) == (c.toNat : Int))
      · have HN := Lib.hid (any_take_no (f := fun x => (x.toNat : Int) == (c.toNat : Int)) HG.out HA.out hxc)
        go_wp2
        go_round
        case rel => exact ⟨k + 1, by omega, by go_num, HN⟩
        case measure => simp [intOf]; omega
      · have HN := Lib.hid (any_yes (f := fun x => (x.toNat : Int) == (c.toNat : Int)) HG.out hxc)
        go_wp2
        go_ret
        exact ⟨ret_bool HN.out.symm, rfl⟩
    · go_wp2
      go_ret
      refine ⟨ret_bool ?_, rfl⟩
      have := HA.out
      rw [List.take_of_length_le (by rw [HL.out]; omega)] at this
      exact this.symm
end Go.Proofs.YtgplaeopcejmoaaGreatDoor
