/- PromoteGreatest: the law's walk. -/
import Derived.Test.YtnjmdljnmnpecaaGreatDoorGrt
import Derived.Test.YtnjmdljnmnpecaaGreatDoorKnw
namespace Go.Proofs.YtnjmdljnmnpecaaGreatDoor
open Go.RowKit

set_option maxHeartbeats 2000000 in
theorem lawGreatest (A : Option Addr) (n c : Nat) (ps : List Pa) (w : World) (hp : Pb w w.heap.size A n ps) :
    Calls Tryz.prog 3 #[.slice A n c] w fun e w' => e = .returned (.bool true) ∧ Below w.heap.size w w' := by
  have hl := hp.1
  have hn := hp.2.1
  go_enter Tryz.func3, Tryz.ntmps3
  by_cases hbig : n > 20
  · go_wp2_with (go_at_call 5; refine (known_calls _).mono ?_; rintro e w' ⟨rfl, hb⟩)
    go_ret
    exact ⟨rfl, hb⟩
  go_wp2
  go_loopw [3, 4] (fun r i wr => w = wr ∧ ∃ j : Nat, j ≤ n ∧ i = .int .i64 (j : Int) ∧ r = .int .u64 (mxP 0 (ps.take j))) (fun _ i _ => n - (intOf i).toNat)
  case atStart => exact ⟨rfl, 0, Nat.zero_le _, rfl, rfl⟩
  case round =>
    obtain ⟨rfl, j, hj, rfl, rfl⟩ := hrel
    by_cases hlt : j < n
    · obtain ⟨b, o, rfl, hb, hc⟩ := hp.2.2 (by omega)
      obtain ⟨p, hpj⟩ : ∃ p, ps[j]? = some p := ⟨_, List.getElem?_eq_getElem (by omega)⟩
      obtain ⟨hcell, hfb⟩ := hc j p hpj
      have hnext := Lib.hid (mxP_succ (m := 0) hpj)
      obtain ⟨pA, pn, pc, pl⟩ := p
      simp only at hcell hfb
      have hpl := hfb.1
      have hpn := hfb.2.1
      obtain ⟨acc, hacc⟩ : ∃ acc, mxP 0 (ps.take j) = acc := ⟨_, rfl⟩
      have HACC := Lib.hid hacc
      rw [hacc]
      clear hc hacc
      by_cases hb2 : pn > 20
      · go_wp2_with (go_at_call 5; refine (known_calls _).mono ?_; rintro e w' ⟨rfl, hb⟩)
        go_ret
        exact ⟨rfl, hb⟩
      go_wp2
      go_loopw [3, 5] (fun r i wr2 => w = wr2 ∧ ∃ k : Nat, k ≤ pn ∧ i = .int .i64 (k : Int) ∧ r = .int .u64 (mxF acc (pl.take k))) (fun _ i _ => pn - (intOf i).toNat)
      case atStart => exact ⟨rfl, 0, Nat.zero_le _, rfl, rfl⟩
      case round =>
        obtain ⟨rfl, k, hk, rfl, rfl⟩ := hrel
        by_cases hlt2 : k < pn
        · obtain ⟨b2, o2, rfl, hb2, hc2⟩ := hfb.2.2 (by omega)
          obtain ⟨q, hq⟩ : ∃ q, pl[k]? = some q := ⟨_, List.getElem?_eq_getElem (by omega)⟩
          obtain ⟨c1, c2⟩ := hc2 k q hq
          obtain ⟨q1, q2⟩ := q
          have hnext2 := Lib.hid (mxF_succ (m := acc) hq)
          obtain ⟨a2, ha2⟩ : ∃ a2, mxF acc (pl.take k) = a2 := ⟨_, rfl⟩
          have HA2 := Lib.hid ha2
          rw [ha2]
          clear hc2 ha2
          simp only at c1 c2
          by_cases hgt : q1 > a2
          · go_wp2
            go_roundw
            case rel => exact ⟨by trivial, k + 1, by omega, by go_num, by rw [hnext2.out, HA2.out, if_pos hgt]⟩
            case measure => simp [intOf]; omega
          · go_wp2
            go_roundw
            case rel => exact ⟨by trivial, k + 1, by omega, by go_num, by rw [hnext2.out, HA2.out, if_neg hgt]⟩
            case measure => simp [intOf]; omega
        · obtain rfl : k = pn := by omega
          go_wp2
          go_roundw
          case rel =>
            refine ⟨by trivial, j + 1, by omega, by go_num, ?_⟩
            rw [hnext.out, HACC.out, List.take_of_length_le (by omega)]
          case measure => simp [intOf]; omega
    · obtain rfl : j = n := by omega
      rw [List.take_of_length_le (by omega)]
      obtain ⟨M, hM⟩ : ∃ M, mxP 0 ps = M := ⟨_, rfl⟩
      have HM := Lib.hid hM
      rw [hM]
      clear hM
      have HP := Lib.hid hp
      clear hp
      go_wp2_with (first
        | (go_at_call 6; with_reducible refine (new_any _).mono ?_; rintro e w1 ⟨b, g, rfl, hb1, k1, k2, k3, hg, hbb⟩)
        | (go_at_call 7; with_reducible refine (greatest_any A j c ps _ (HP.out.behind hb1)).mono ?_; rintro e w2 ⟨he, hb2⟩; rw [HM.out] at he; subst he)
        | (go_at_call 7; with_reducible refine (greatest_any _ _ _ [⟨some ⟨g, 0, none⟩, 1, 1, [(1, 0)]⟩] _ (own_pb (Nat.lt_of_lt_of_le hg hb2.size) ((hb2.cell hg).trans k2) ((hb2.cell hg).trans k3) _)).mono ?_; rintro e w3 ⟨he, hb3⟩; rw [show mxP 0 [⟨some ⟨g, 0, none⟩, 1, 1, [(1, 0)]⟩] = 1 from rfl] at he; subst he)
        | (go_at_call 5; refine (known_calls _).mono ?_; rintro e w4 ⟨rfl, hb4⟩))
      go_ret
      refine ⟨rfl, ?_⟩
      have h2 := hb1.trans (hb2.mono hb1.size)
      have h3 := (h2.alloc h2.size _).trans (hb3.mono (h2.alloc h2.size _).size)
      exact h3.trans (hb4.mono h3.size)
end Go.Proofs.YtnjmdljnmnpecaaGreatDoor
