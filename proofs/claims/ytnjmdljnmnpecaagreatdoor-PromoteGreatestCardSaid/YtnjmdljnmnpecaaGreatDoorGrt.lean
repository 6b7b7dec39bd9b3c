/- promote.Greatest: the greatest timeline of some paths; a new log of the document's. -/
import Derived.WalkKit
import Derived.Below
import Derived.Deep.LoopGhost
import Derived.WalkMore
import Derived.Lib.Hide
import Derived.Test.YtnjmdljnmnpecaaGreatDoorProg
namespace Go.Proofs.YtnjmdljnmnpecaaGreatDoor
open Go.RowKit

/-! ### paths in memory -/
def Fb (w : World) (B : Nat) (A : Option Addr) (n : Nat) (l : List (Int × Int)) : Prop :=
  l.length = n ∧ n ≤ 9223372036854775807 ∧ (0 < n → ∃ b o, A = some ⟨b, o, none⟩ ∧ b < B ∧ ∀ k p, l[k]? = some p → w.cell? ⟨b, o + k * 2, none⟩ = some (.int .u64 p.1) ∧ w.cell? ⟨b, o + k * 2 + 1, none⟩ = some (.int .u64 p.2))
theorem Fb.keep {w w' : World} {B n : Nat} {A : Option Addr} {l : List (Int × Int)} (h : Fb w B A n l) (hk : ∀ p : Addr, p.block < B → w'.cell? p = w.cell? p) : Fb w' B A n l :=
  ⟨h.1, h.2.1, fun hn => by
    obtain ⟨b, o, e, hb, hc⟩ := h.2.2 hn
    exact ⟨b, o, e, hb, fun k p hp => ⟨(hk _ hb).trans (hc k p hp).1, (hk _ hb).trans (hc k p hp).2⟩⟩⟩
theorem Fb.more {w : World} {B B' n : Nat} {A : Option Addr} {l : List (Int × Int)} (h : Fb w B A n l) (hB : B ≤ B') : Fb w B' A n l :=
  ⟨h.1, h.2.1, fun hn => by
    obtain ⟨b, o, e, hb, hc⟩ := h.2.2 hn
    exact ⟨b, o, e, Nat.lt_of_lt_of_le hb hB, hc⟩⟩
structure Pa where
  A : Option Addr
  n : Nat
  c : Nat
  l : List (Int × Int)
def Pb (w : World) (B : Nat) (A : Option Addr) (n : Nat) (ps : List Pa) : Prop :=
  ps.length = n ∧ n ≤ 9223372036854775807 ∧ (0 < n → ∃ b o, A = some ⟨b, o, none⟩ ∧ b < B ∧ ∀ k p, ps[k]? = some p → w.cell? ⟨b, o + k, none⟩ = some (.slice p.A p.n p.c) ∧ Fb w B p.A p.n p.l)
theorem Pb.keep {w w' : World} {B n : Nat} {A : Option Addr} {ps : List Pa} (h : Pb w B A n ps) (hk : ∀ p : Addr, p.block < B → w'.cell? p = w.cell? p) : Pb w' B A n ps :=
  ⟨h.1, h.2.1, fun hn => by
    obtain ⟨b, o, e, hb, hc⟩ := h.2.2 hn
    exact ⟨b, o, e, hb, fun k p hp => ⟨(hk _ hb).trans (hc k p hp).1, (hc k p hp).2.keep hk⟩⟩⟩
theorem Pb.below {w w' : World} {B n : Nat} {A : Option Addr} {ps : List Pa} (h : Pb w B A n ps) (hb : Below B w w') : Pb w' B A n ps := h.keep fun _ hp => hb.cell hp
theorem Pb.more {w : World} {B B' n : Nat} {A : Option Addr} {ps : List Pa} (h : Pb w B A n ps) (hB : B ≤ B') : Pb w B' A n ps :=
  ⟨h.1, h.2.1, fun hn => by
    obtain ⟨b, o, e, hb, hc⟩ := h.2.2 hn
    exact ⟨b, o, e, Nat.lt_of_lt_of_le hb hB, fun k p hp => ⟨(hc k p hp).1, (hc k p hp).2.more hB⟩⟩⟩
theorem Pb.behind {w w' : World} {n : Nat} {A : Option Addr} {ps : List Pa} (h : Pb w w.heap.size A n ps) (hb : Below w.heap.size w w') : Pb w' w'.heap.size A n ps := (h.below hb).more hb.size
/-! ### the greatest -/
def mxF (m : Int) (l : List (Int × Int)) : Int := l.foldl (fun m p => if p.1 > m then p.1 else m) m
def mxP (m : Int) (ps : List Pa) : Int := ps.foldl (fun m p => mxF m p.l) m
theorem mxF_succ {m : Int} {l : List (Int × Int)} {k : Nat} {p : Int × Int} (h : l[k]? = some p) : mxF m (l.take (k + 1)) = if p.1 > mxF m (l.take k) then p.1 else mxF m (l.take k) := by
  unfold mxF
  rw [List.take_add_one, h, List.foldl_append]; rfl
theorem mxP_succ {m : Int} {ps : List Pa} {k : Nat} {p : Pa} (h : ps[k]? = some p) : mxP m (ps.take (k + 1)) = mxF (mxP m (ps.take k)) p.l := by
  unfold mxP
  rw [List.take_add_one, h, List.foldl_append]; rfl
set_option maxHeartbeats 1000000 in
theorem greatest_any (A : Option Addr) (n c : Nat) (ps : List Pa) (w : World) (hp : Pb w w.heap.size A n ps) :
    Calls Tryz.prog 7 #[.slice A n c] w fun e w' => e = .returned (.int .u64 (mxP 0 ps)) ∧ Below w.heap.size w w' := by
  have hl := hp.1
  have hn := hp.2.1
  go_enter Tryz.func7, Tryz.ntmps7
  go_wp2
  go_loopw [3, 10] (fun r i wr => ∃ j : Nat, j ≤ n ∧ i = .int .i64 (j : Int) ∧ r = .int .u64 (mxP 0 (ps.take j)) ∧ Below w.heap.size w wr) (fun _ i _ => n - (intOf i).toNat)
  case atStart => exact ⟨0, Nat.zero_le _, rfl, rfl, Below.refl _ _⟩
  case round =>
    obtain ⟨j, hj, rfl, rfl, hbel⟩ := hrel
    by_cases hlt : j < n
    · obtain ⟨b, o, rfl, hb, hc⟩ := (hp.below hbel).2.2 (by omega)
      obtain ⟨p, hpj⟩ : ∃ p, ps[j]? = some p := ⟨_, List.getElem?_eq_getElem (by omega)⟩
      obtain ⟨hcell, hfb⟩ := hc j p hpj
      have hnext := Lib.hid (mxP_succ (m := 0) hpj)
      obtain ⟨pA, pn, pc, pl⟩ := p
      simp only at hcell hfb
      have hpl := hfb.1
      have hpn := hfb.2.1
      obtain ⟨acc, hacc⟩ : ∃ acc, mxP 0 (ps.take j) = acc := ⟨_, rfl⟩
      have HACC := Lib.hid hacc
      rw [hacc]
      clear hc hacc
      go_wp2
      go_loopw [3, 16] (fun r i wr2 => ∃ k : Nat, k ≤ pn ∧ i = .int .i64 (k : Int) ∧ r = .int .u64 (mxF acc (pl.take k)) ∧ Below w.heap.size w wr2) (fun _ i _ => pn - (intOf i).toNat)
      case atStart => exact ⟨0, Nat.zero_le _, rfl, rfl, hbel⟩
      case round =>
        obtain ⟨k, hk, rfl, rfl, hbel2⟩ := hrel
        by_cases hlt2 : k < pn
        · have hfb2 : Fb wr w.heap.size pA pn pl := by
            have h1 := hp.below hbel2
            obtain ⟨b', o', e', hb', hc'⟩ := h1.2.2 (by omega)
            exact (hc' j _ hpj).2
          obtain ⟨b2, o2, rfl, hb2, hc2⟩ := hfb2.2.2 (by omega)
          obtain ⟨q, hq⟩ : ∃ q, pl[k]? = some q := ⟨_, List.getElem?_eq_getElem (by omega)⟩
          obtain ⟨c1, c2⟩ := hc2 k q hq
          obtain ⟨q1, q2⟩ := q
          have hnext2 := Lib.hid (mxF_succ (m := acc) hq)
          obtain ⟨a2, ha2⟩ : ∃ a2, mxF acc (pl.take k) = a2 := ⟨_, rfl⟩
          have HA2 := Lib.hid ha2
          rw [ha2]
          clear hc2 ha2
          simp only at c1 c2
          by_cases hgt : q1 > a2
          · go_wp2
            go_roundw
            case rel => exact ⟨k + 1, by omega, by go_num, by rw [hnext2.out, HA2.out, if_pos hgt], hbel2.alloc hbel2.size _⟩
            case measure => simp [intOf]; omega
          · go_wp2
            go_roundw
            case rel => exact ⟨k + 1, by omega, by go_num, by rw [hnext2.out, HA2.out, if_neg hgt], hbel2.alloc hbel2.size _⟩
            case measure => simp [intOf]; omega
        · obtain rfl : k = pn := by omega
          go_wp2
          go_roundw
          case rel =>
            refine ⟨j + 1, by omega, by go_num, ?_, hbel2⟩
            rw [hnext.out, HACC.out, List.take_of_length_le (by omega)]
          case measure => simp [intOf]; omega
    · obtain rfl : j = n := by omega
      go_wp2
      go_ret
      refine ⟨?_, hbel⟩
      rw [List.take_of_length_le (by omega)]
      rfl
/-! ### a new log of the document's -/
theorem cell_new (w : World) (o : Array Value) (t : TypeId) (i : Nat) : (w.alloc (.cells o t)).cell? ⟨w.heap.size, i, none⟩ = o[i]? := by
  simp only [World.cell?, heap_alloc_new]
  simp
theorem cell_new2 (w : World) (X : Obj) (o : Array Value) (t : TypeId) (i : Nat) : ((w.alloc X).alloc (.cells o t)).cell? ⟨w.heap.size + 1, i, none⟩ = o[i]? := by
  have := cell_new (w.alloc X) o t i
  rwa [World.size_alloc] at this
theorem cell_old2 (w : World) (Y : Obj) (o : Array Value) (t : TypeId) (i : Nat) : ((w.alloc (.cells o t)).alloc Y).cell? ⟨w.heap.size, i, none⟩ = o[i]? :=
  (((Below.refl (w.alloc (.cells o t)).heap.size (w.alloc (.cells o t))).alloc (Nat.le_refl _) Y).cell (p := ⟨w.heap.size, i, none⟩) (by simp)).trans (cell_new w o t i)
theorem new_any (w : World) : Calls Tryz.prog 6 #[.int .i64 0] w fun e w' => ∃ b g : Nat, e = .returned (.pointer (some ⟨b, 0, none⟩)) ∧ Below w.heap.size w w' ∧ w'.cell? ⟨b, 3, none⟩ = some (.slice (some ⟨g, 0, none⟩) 1 1) ∧
    w'.cell? ⟨g, 0, none⟩ = some (.int .u64 1) ∧ w'.cell? ⟨g, 1, none⟩ = some (.int .u64 0) ∧ g < w'.heap.size ∧ b < w'.heap.size := by
  go_enter Tryz.func6, Tryz.ntmps6
  go_wp2
  go_ret
  refine ⟨w.heap.size + 1, w.heap.size, by simp, ((Below.refl _ w).alloc (Nat.le_refl _) _).alloc (by simp) _, (cell_new2 _ _ _ _ 3).trans rfl, (cell_old2 _ _ _ _ 0).trans rfl, (cell_old2 _ _ _ _ 1).trans rfl, by simp only [World.size_alloc]; omega, by simp only [World.size_alloc]; omega⟩
theorem own_pb {w : World} {g : Nat} (hg : g < w.heap.size) (k2 : w.cell? ⟨g, 0, none⟩ = some (.int .u64 1)) (k3 : w.cell? ⟨g, 1, none⟩ = some (.int .u64 0)) (t : TypeId) :
    Pb (w.alloc (.cells #[.slice (some ⟨g, 0, none⟩) 1 1] t)) (w.alloc (.cells #[.slice (some ⟨g, 0, none⟩) 1 1] t)).heap.size (some ⟨w.heap.size, 0, none⟩) 1 [⟨some ⟨g, 0, none⟩, 1, 1, [(1, 0)]⟩] := by
  have hk : ∀ i : Nat, (w.alloc (.cells #[.slice (some ⟨g, 0, none⟩) 1 1] t)).cell? ⟨g, i, none⟩ = w.cell? ⟨g, i, none⟩ := fun i => ((Below.refl _ w).alloc (Nat.le_refl _) _).cell hg
  refine ⟨rfl, by omega, fun _ => ⟨w.heap.size, 0, rfl, by simp, fun k p hp => ?_⟩⟩
  match k, hp with
  | 0, hp =>
    injection hp with hp; subst hp
    refine ⟨(cell_new w _ t 0).trans rfl, rfl, by show 1 ≤ 9223372036854775807; omega, fun _ => ⟨g, 0, rfl, by simp; omega, fun k p hp => ?_⟩⟩
    match k, hp with
    | 0, hp =>
      injection hp with hp; subst hp
      exact ⟨(hk 0).trans k2, (hk 1).trans k3⟩
    | k + 1, hp => simp at hp
  | k + 1, hp => simp at hp
end Go.Proofs.YtnjmdljnmnpecaaGreatDoor
