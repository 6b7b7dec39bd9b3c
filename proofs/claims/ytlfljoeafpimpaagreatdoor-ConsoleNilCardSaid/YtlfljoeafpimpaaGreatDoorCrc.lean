/- The walk of crc.take: a register takes bytes. -/
import Derived.WalkKit
import Derived.Below
import Derived.Deep.LoopGhost
import Derived.WalkMore
import Derived.Lib.Hide
import Derived.Test.YtlfljoeafpimpaaGreatDoorProg
namespace Go.Proofs.YtlfljoeafpimpaaGreatDoor
open Go.RowKit

def stpN (T : List Nat) (r : Nat) : Nat := (r / 16) ^^^ (T.getD (r % 16) 0)
def takeN (T : List Nat) (r : Nat) (cs : List Nat) : Nat := cs.foldl (fun r c => stpN T (stpN T (r ^^^ c))) r
theorem wrap_u32 {n : Nat} (h : n < 4294967296) : IntKind.u32.wrap (n : Int) = n := by
  have : IntKind.u32.wrap (n : Int) = (n : Int) % 4294967296 := rfl
  rw [this]; omega
theorem bits_xor32 {a b : Nat} (ha : a < 4294967296) (hb : b < 4294967296) : bits .xor .u32 (a : Int) (b : Int) = ((a ^^^ b : Nat) : Int) := by
  have h : bits .xor .u32 (a : Int) (b : Int) = IntKind.u32.wrap ((BitVec.ofInt 32 (a : Int) ^^^ BitVec.ofInt 32 (b : Int)).toNat : Int) := rfl
  have hx : a ^^^ b < 4294967296 := Nat.xor_lt_two_pow (n := 32) ha hb
  rw [h, BitVec.toNat_xor]
  have e1 : (BitVec.ofInt 32 (a : Int)).toNat = a := by
    rw [BitVec.toNat_ofInt]; omega
  have e2 : (BitVec.ofInt 32 (b : Int)).toNat = b := by
    rw [BitVec.toNat_ofInt]; omega
  rw [e1, e2, wrap_u32 hx]
theorem bits_and15 {a : Nat} (ha : a < 4294967296) : bits .and .u32 (a : Int) 15 = ((a % 16 : Nat) : Int) := by
  have h : bits .and .u32 (a : Int) 15 = IntKind.u32.wrap ((BitVec.ofInt 32 (a : Int) &&& BitVec.ofInt 32 15).toNat : Int) := rfl
  rw [h, BitVec.toNat_and]
  have e1 : (BitVec.ofInt 32 (a : Int)).toNat = a := by
    rw [BitVec.toNat_ofInt]; omega
  have e2 : (BitVec.ofInt 32 15).toNat = 15 := rfl
  have e3 : a &&& 15 = a % 16 := Nat.and_two_pow_sub_one_eq_mod a 4
  rw [e1, e2, e3, wrap_u32 (by omega)]
theorem stpN_lt {T : List Nat} (hT : ∀ x ∈ T, x < 4294967296) {r : Nat} (hr : r < 4294967296) : stpN T r < 4294967296 := by
  unfold stpN
  refine Nat.xor_lt_two_pow (n := 32) (by omega) ?_
  rw [List.getD_eq_getElem?_getD]
  cases h : T[r % 16]? with
  | none => simp
  | some x => exact hT x (List.mem_of_getElem? h)
theorem takeN_lt {T : List Nat} (hT : ∀ x ∈ T, x < 4294967296) : ∀ {cs : List Nat} {r : Nat}, r < 4294967296 → (∀ c ∈ cs, c < 256) → takeN T r cs < 4294967296
  | [], _, hr, _ => hr
  | c :: cs, r, hr, hc => takeN_lt hT (cs := cs) (stpN_lt hT (stpN_lt hT (Nat.xor_lt_two_pow (n := 32) hr (by have := hc c (List.mem_cons_self ..); omega)))) fun d hd => hc d (List.mem_cons_of_mem _ hd)
theorem takeN_succ {T : List Nat} {r k c : Nat} {cs : List Nat} (h : cs[k]? = some c) : takeN T r (cs.take (k + 1)) = stpN T (stpN T (takeN T r (cs.take k) ^^^ c)) := by
  unfold takeN
  rw [List.take_add_one, h, List.foldl_append]
  rfl
set_option maxRecDepth 100000 in
theorem take_some (T : List Nat) (hTl : T.length = 16) (hT : ∀ x ∈ T, x < 4294967296) (r0 : Nat) (hr0 : r0 < 4294967296) (cs : List Nat) (hcs : ∀ c ∈ cs, c < 256) (hc63 : cs.length < 9223372036854775807) (b o k : Nat) (w : World)
    (hb : ∀ i c : Nat, cs[i]? = some c → w.cell? ⟨b, o + i, none⟩ = some (.int .u8 (c : Int))) :
    Calls Tryz.prog 432 #[.int .u32 (r0 : Int), .agg (T.map fun x : Nat => Value.int .u32 ((x : Nat) : Int)).toArray, .slice (some ⟨b, o, none⟩) cs.length k] w fun e w' => e = .returned (.int .u32 (takeN T r0 cs : Nat)) ∧ Below w.heap.size w w' := by
  obtain ⟨n, hn⟩ : ∃ n, cs.length = n := ⟨_, rfl⟩
  obtain ⟨TA, hTA⟩ : ∃ TA, (T.map fun x : Nat => Value.int .u32 ((x : Nat) : Int)).toArray = TA := ⟨_, rfl⟩
  rw [hn] at hc63
  rw [hn, hTA]
  go_enter Tryz.func432, Tryz.ntmps432
  go_wp2
  go_loopw [0, 12] (fun r i wr => ∃ j : Nat, j ≤ n ∧ i = .int .i64 (j : Int) ∧ r = .int .u32 ((takeN T r0 (cs.take j) : Nat) : Int) ∧ Below w.heap.size w wr ∧ Go.RowKit.Hid (∀ q x : Nat, T[q]? = some x → wr.cell? ⟨w.heap.size, q, none⟩ = some (.int .u32 (x : Int)))) (fun _ i _ => n - (intOf i).toNat)
  case atStart =>
    refine ⟨0, Nat.zero_le _, rfl, rfl, (Below.refl w.heap.size w).alloc (Nat.le_refl _) _, fun q x hq => ?_⟩
    show World.cell? _ _ = _
    simp only [World.cell?, heap_alloc_new]
    rw [← hTA]
    simp [hq]
  case round =>
    obtain ⟨j, hj, rfl, rfl, hbel, HT⟩ := hrel
    by_cases hlt : j < n
    · obtain ⟨c, hc⟩ : ∃ c, cs[j]? = some c := ⟨_, List.getElem?_eq_getElem (by omega)⟩
      have hcell : wr.cell? ⟨b, o + j, none⟩ = some (.int .u8 (c : Int)) := (hbel.cell (World.block_lt_of_cell? w _ (hb j c hc))).trans (hb j c hc)
      have hcl : c < 256 := hcs c (List.mem_of_getElem? hc)
      have hrl : takeN T r0 (cs.take j) < 4294967296 := takeN_lt hT hr0 fun d hd => hcs d (List.mem_of_mem_take hd)
      have hnext := takeN_succ (T := T) (r := r0) hc
      obtain ⟨r1, hr1⟩ : ∃ r1, takeN T r0 (cs.take j) = r1 := ⟨_, rfl⟩
      rw [hr1] at hrl hnext ⊢
      obtain ⟨x1, hx1⟩ : ∃ x1, r1 ^^^ c = x1 := ⟨_, rfl⟩
      have l1 : x1 < 4294967296 := by rw [← hx1]; exact Nat.xor_lt_two_pow (n := 32) hrl (by omega)
      have b1 := bits_xor32 hrl (show c < 4294967296 by omega)
      obtain ⟨x2, hx2⟩ : ∃ x2, stpN T x1 = x2 := ⟨_, rfl⟩
      obtain ⟨x3, hx3⟩ : ∃ x3, stpN T x2 = x3 := ⟨_, rfl⟩
      rw [hx1, hx2, hx3] at hnext
      rw [hx1] at b1
      have l2 : x2 < 4294967296 := by rw [← hx2]; exact stpN_lt hT l1
      have one : ∀ x y, x < 4294967296 → stpN T x = y → ∃ t, wr.cell? ⟨w.heap.size, x % 16, none⟩ = some (.int .u32 ((t : Nat) : Int)) ∧ bits .and .u32 (x : Int) 15 = ((x % 16 : Nat) : Int) ∧ bits .xor .u32 ((x : Int) / 16) (t : Int) = (y : Int) := by
        intro x y hx hy
        have hm : x % 16 < T.length := by omega
        refine ⟨T[x % 16], HT _ _ (List.getElem?_eq_getElem hm), bits_and15 hx, ?_⟩
        have h3 := bits_xor32 (a := x / 16) (b := T[x % 16]) (by omega) (hT _ (List.getElem_mem hm))
        rw [show ((x : Int) / 16) = ((x / 16 : Nat) : Int) by omega, h3, ← hy]
        unfold stpN
        rw [List.getD_eq_getElem?_getD, List.getElem?_eq_getElem hm]
        rfl
      obtain ⟨t1, c1, a1, g1⟩ := one x1 x2 l1 hx2
      obtain ⟨t2, c2, a2, g2⟩ := one x2 x3 l2 hx3
      have HN := Lib.hid hnext; clear hnext
      clear one hx1 hx2 hx3 hb hr1
      obtain ⟨m1, hm1⟩ : ∃ m1, x1 % 16 = m1 := ⟨_, rfl⟩
      obtain ⟨m2, hm2⟩ : ∃ m2, x2 % 16 = m2 := ⟨_, rfl⟩
      rw [hm1] at c1 a1
      rw [hm2] at c2 a2
      have e1 : m1 < 16 := by omega
      have e2 : m2 < 16 := by omega
      clear hm1 hm2
      go_wp2
      go_loopw [0, 20] (fun r i wr2 => wr = wr2 ∧ ((r = .int .u32 (x1 : Int) ∧ i = .int .i64 0) ∨ (r = .int .u32 (x2 : Int) ∧ i = .int .i64 1) ∨ (r = .int .u32 (x3 : Int) ∧ i = .int .i64 2))) (fun _ i _ => 2 - (intOf i).toNat)
      case atStart => exact ⟨rfl, .inl ⟨rfl, rfl⟩⟩
      case round =>
        rcases hrel with ⟨rfl, ⟨rfl, rfl⟩ | ⟨rfl, rfl⟩ | ⟨rfl, rfl⟩⟩
        · go_wp2
          go_roundw
          case rel => exact ⟨by trivial, .inr (.inl ⟨rfl, rfl⟩)⟩
          case measure => simp [intOf]
        · go_wp2
          go_roundw
          case rel => exact ⟨by trivial, .inr (.inr ⟨rfl, rfl⟩)⟩
          case measure => simp [intOf]
        · go_wp2
          go_roundw
          case rel => exact ⟨j + 1, by omega, by go_num, by rw [HN.out], hbel, HT⟩
          case measure => simp [intOf]; omega
    · obtain rfl : j = n := by omega
      go_wp2
      go_ret
      refine ⟨?_, hbel⟩
      rw [List.take_of_length_le (by omega)]
      rfl
end Go.Proofs.YtlfljoeafpimpaaGreatDoor
