/- The walk of known, of Get and Scan. -/
import Derived.Test.YtjgkiecepjlheaaIdx
namespace Go.Proofs.Ytjgkiecepjlheaa
open Go.RowKit

def sA : ByteArray := ⟨#[97]⟩
def sX : ByteArray := ⟨#[120]⟩
def sB : ByteArray := ⟨#[98]⟩
def sY : ByteArray := ⟨#[121]⟩
def s0 : ByteArray := ⟨#[]⟩
def cs0 (g : Nat) : List Cm :=
  [⟨0, 0, 0, 0, 0, 0, false, 0, some ⟨g, 0, none⟩, 1, 1, [(sA, sX, false)]⟩, ⟨0, 0, 0, 0, 0, 0, false, 0, some ⟨g + 1, 0, none⟩, 2, 2, [(sA, s0, true), (sB, sY, false)]⟩]
theorem few0 (g : Nat) : Few (cs0 g) := by
  refine ⟨by simp [cs0], fun x hx => ?_⟩
  unfold cs0 at hx
  simp at hx
  rcases hx with rfl | rfl <;> simp
theorem table0 (g : Nat) : tableT (wrs (cs0 g)) = [(sB, sY)] := by
  have : wrs (cs0 g) = [[(sA, sX, false)], [(sA, s0, true), (sB, sY, false)]] := rfl
  rw [this]
  decide +kernel

def l1 : List Value := [.string sA, .string sX, .bool false]
def l2 : List Value := [.string sA, .string s0, .bool true, .string sB, .string sY, .bool false]
def l3 (g : Nat) : List Value := [.int .u64 0, .int .u64 0, .int .i64 0, .int .u64 0, .int .i64 0, .int .i64 0, .bool false, .int .i64 0, .slice (some ⟨g, 0, none⟩) 1 1,
  .int .u64 0, .int .u64 0, .int .i64 0, .int .u64 0, .int .i64 0, .int .i64 0, .bool false, .int .i64 0, .slice (some ⟨g + 1, 0, none⟩) 2 2]

theorem cb0 {w : World} {g : Nat} (h1 : Blk w g 43 l1) (h2 : Blk w (g + 1) 43 l2) (h3 : Blk w (g + 2) 33 (l3 g)) : Cb w w.heap.size (some ⟨g + 2, 0, none⟩) 2 (cs0 g) := by
  have q1 := h1.lt
  have q2 := h2.lt
  refine ⟨rfl, fun _ => ⟨g + 2, 0, rfl, h3.lt, fun k x hx => ?_⟩⟩
  match k, hx with
  | 0, hx =>
    simp [cs0] at hx
    subst hx
    refine ⟨?_, ?_, ?_, ?_, ?_, ?_, ?_, ?_, ?_, rfl, fun _ => ⟨g, 0, rfl, q1, fun k p hp => ?_⟩⟩
    · rw [h3.cell]; rfl
    · rw [h3.cell]; rfl
    · rw [h3.cell]; rfl
    · rw [h3.cell]; rfl
    · rw [h3.cell]; rfl
    · rw [h3.cell]; rfl
    · rw [h3.cell]; rfl
    · rw [h3.cell]; rfl
    · rw [h3.cell]; rfl
    · match k, hp with
      | 0, hp =>
        simp at hp
        subst hp
        exact ⟨by rw [h1.cell]; rfl, by rw [h1.cell]; rfl, by rw [h1.cell]; rfl⟩
  | 1, hx =>
    simp [cs0] at hx
    subst hx
    refine ⟨?_, ?_, ?_, ?_, ?_, ?_, ?_, ?_, ?_, rfl, fun _ => ⟨g + 1, 0, rfl, q2, fun k p hp => ?_⟩⟩
    · rw [h3.cell]; rfl
    · rw [h3.cell]; rfl
    · rw [h3.cell]; rfl
    · rw [h3.cell]; rfl
    · rw [h3.cell]; rfl
    · rw [h3.cell]; rfl
    · rw [h3.cell]; rfl
    · rw [h3.cell]; rfl
    · rw [h3.cell]; rfl
    · match k, hp with
      | 0, hp =>
        simp at hp
        subst hp
        exact ⟨by rw [h2.cell]; rfl, by rw [h2.cell]; rfl, by rw [h2.cell]; rfl⟩
      | 1, hp =>
        simp at hp
        subst hp
        exact ⟨by rw [h2.cell]; rfl, by rw [h2.cell]; rfl, by rw [h2.cell]; rfl⟩

theorem cb0_at (w : World) : Cb (((w.alloc (.cells l1.toArray 43)).alloc (.cells l2.toArray 43)).alloc (.cells (l3 w.heap.size).toArray 33)) (((w.alloc (.cells l1.toArray 43)).alloc (.cells l2.toArray 43)).alloc (.cells (l3 w.heap.size).toArray 33)).heap.size
    (some ⟨w.heap.size + 1 + 1, 0, none⟩) 2 (cs0 w.heap.size) := by
  refine cb0 ?_ ?_ ?_
  · exact ((Blk.new w 43 l1).alloc _).alloc _
  · have := (Blk.new (w.alloc (.cells l1.toArray 43)) 43 l2).alloc (.cells (l3 w.heap.size).toArray 33)
    simpa using this
  · have := Blk.new ((w.alloc (.cells l1.toArray 43)).alloc (.cells l2.toArray 43)) 33 (l3 w.heap.size)
    simpa using this

set_option maxHeartbeats 1000000 in
theorem known_any (w : World) : Calls Try.prog 6 #[] w fun e w' => e = .returned (.bool true) ∧ Below w.heap.size w w' := by
  have hb0 : Below w.heap.size w (((w.alloc (.cells l1.toArray 43)).alloc (.cells l2.toArray 43)).alloc (.cells (l3 w.heap.size).toArray 33)) :=
    (((Below.refl _ _).alloc (Nat.le_refl _) _).alloc (by simp) _).alloc (by simp; omega) _
  have hcb := cb0_at w
  have HC := Lib.hid hcb; clear hcb
  have eq := eql_pair
  have gp := guard_pair
  go_enter Try.func6, Try.ntmps6
  go_wp2_with (go_at_call 10; refine (table_any _ _ _ (cs0 w.heap.size) _ (few0 _) (by exact HC.out)).mono ?_; rintro e w2 ⟨A', n', c', rfl, ht, hb⟩
               rw [table0] at ht
               obtain ⟨hl, ht⟩ := ht
               obtain rfl : n' = 1 := by simpa using hl.symm
               obtain ⟨b, o, rfl, hbw, hc⟩ := ht (by omega)
               obtain ⟨d0, d1⟩ := hc 0 _ rfl
               simp only [Nat.zero_mul, Nat.add_zero] at d0 d1
               clear hc ht hl)
  go_ret
  exact ⟨ret_bool (by rw [show (⟨#[98]⟩ : ByteArray) = sB from rfl, show (⟨#[121]⟩ : ByteArray) = sY from rfl, eqB_refl, eqB_refl]; rfl), hb0.trans (hb.mono hb0.size)⟩

end Go.Proofs.Ytjgkiecepjlheaa
