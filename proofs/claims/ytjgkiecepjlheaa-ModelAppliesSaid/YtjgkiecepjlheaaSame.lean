/- The walks of the three functions that compare two tables. -/
import Derived.Test.YtjgkiecepjlheaaFind
import Derived.Laws.StructEq
import Derived.Deep.QuietTactic
import Derived.BigQuiet
namespace Go.Proofs.Ytjgkiecepjlheaa
open Go.RowKit

theorem eqIn_pair (a b c d : ByteArray) (w : World) : (Op.equalIn 10000 40 (.agg #[.string a, .string b]) (.agg #[.string c, .string d])).run Try.prog w = .ok (eqB a c && eqB b d) w := by
  have u9 := Try.underlying9
  have a9 := Try.isAgg9
  have z9 := Try.sizeOf9
  have hS : Try.prog.underlying 40 = some (.struct (Try.prog.fieldsOf 40)) := by kernel_rfl
  have hp : Try.prog.stoodInHeld 40 = false := by kernel_rfl
  rw [show (10000 : Nat) = 9999 + 1 from rfl, run_equalIn_agg w 9999 40 _ _ hS hp]
  simp only [Program.fieldsOf, Try.underlying40]
  unfold eqB
  go_simp
  by_cases h1 : a.toList = c.toList <;> by_cases h2 : b.toList = d.toList <;> simp [h1, h2]
theorem neq_pair (a b c d : ByteArray) (w : World) : (binOp .neq 40 (.agg #[.string a, .string b]) (.agg #[.string c, .string d])).run Try.prog w = .ok (.bool (!(eqB a c && eqB b d))) w := by
  rw [run_neq_struct, eqIn_pair]; rfl
theorem eql_pair (a b c d : ByteArray) (w : World) : (binOp .eql 40 (.agg #[.string a, .string b]) (.agg #[.string c, .string d])).run Try.prog w = .ok (.bool (eqB a c && eqB b d)) w := by
  rw [run_eql_struct, eqIn_pair]; rfl
theorem guard_pair : Try.prog.eqGuardType Try.prog.depth 40 = false := by kernel_rfl

def sameT (ps qs : List Pr) : Bool := decide (ps = qs)
theorem sameT_true {ps qs : List Pr} (h : ps = qs) : sameT ps qs = true := by unfold sameT; simp [h]
theorem sameT_false {ps qs : List Pr} (h : ps ≠ qs) : sameT ps qs = false := by unfold sameT; simp [h]
theorem ret_bool {a b : Bool} (h : a = b) : Ending.returned (.bool a) = .returned (.bool b) := by rw [h]

theorem take_step {ps qs : List Pr} {i : Nat} {k1 v1 k2 v2 : ByteArray} (ht : ps.take i = qs.take i) (h1 : ps[i]? = some (k1, v1)) (h2 : qs[i]? = some (k2, v2)) (he : (eqB k1 k2 && eqB v1 v2) = true) :
    ps.take (i + 1) = qs.take (i + 1) := by
  simp only [Bool.and_eq_true, eqB_iff] at he
  rw [List.take_add_one, List.take_add_one, ht, h1, h2, he.1, he.2]
theorem take_part {ps qs : List Pr} {i : Nat} {k1 v1 k2 v2 : ByteArray} (h1 : ps[i]? = some (k1, v1)) (h2 : qs[i]? = some (k2, v2)) (he : (eqB k1 k2 && eqB v1 v2) = false) : ps ≠ qs := by
  rintro rfl
  rw [h1] at h2
  cases h2
  simp [eqB_refl] at he
theorem take_end {ps qs : List Pr} {n i : Nat} (hl : ps.length = n) (hk : qs.length = n) (hi : n ≤ i) (ht : ps.take i = qs.take i) : ps = qs := by
  rwa [List.take_of_length_le (by omega), List.take_of_length_le (by omega)] at ht

set_option maxHeartbeats 400000 in
theorem refsame_any (A B : Option Addr) (n m c d : Nat) (ps qs : List Pr) (w : World) (hn : n ≤ 1000000) (hm : m ≤ 1000000) (hp : Tb w w.heap.size A n ps) (hq : Tb w w.heap.size B m qs) :
    Calls Try.prog 7 #[.slice A n c, .slice B m d] w fun e w' => e = .returned (.bool (sameT ps qs)) ∧ Below w.heap.size w w' := by
  have hl := hp.1
  have hk := hq.1
  by_cases hnm : n = m
  · have h0 : ((n : Int) != (m : Int)) = false := by simp [hnm]
    have HL := Lib.hid hl; clear hl
    have HK := Lib.hid hk; clear hk
    have HNM := Lib.hid hnm; clear hnm
    have np := neq_pair
    have gp := guard_pair
    go_enter Try.func7, Try.ntmps7
    go_wp2
    go_loopw [5] (fun x wr => ∃ i : Nat, i ≤ n ∧ x = .int .i64 i ∧ Below w.heap.size w wr ∧ ps.take i = qs.take i) (fun x _ => (n - (intOf x).toNat))
    case atStart => exact ⟨0, by omega, rfl, Below.refl _ _, rfl⟩
    case round =>
      obtain ⟨i, hi, rfl, hb, ht⟩ := hrel
      have HT := Lib.hid ht; clear ht
      by_cases hlt : i < n
      · have hn' := HNM.out
        have hlt2 : i < m := by omega
        clear hn'
        obtain ⟨b1, o1, rfl, hb1, hc1⟩ := (hp.below hb).2 (by omega)
        obtain ⟨b2, o2, rfl, hb2, hc2⟩ := (hq.below hb).2 (by omega)
        obtain ⟨⟨k1, v1⟩, hp1⟩ : ∃ p, ps[i]? = some p := ⟨_, List.getElem?_eq_getElem (by rw [HL.out]; omega)⟩
        obtain ⟨⟨k2, v2⟩, hp2⟩ : ∃ p, qs[i]? = some p := ⟨_, List.getElem?_eq_getElem (by rw [HK.out]; omega)⟩
        obtain ⟨c1, c2⟩ := hc1 _ _ hp1
        obtain ⟨d1, d2⟩ := hc2 _ _ hp2
        clear hc1 hc2
        simp only at c1 c2 d1 d2
        have HP1 := Lib.hid hp1; clear hp1
        have HP2 := Lib.hid hp2; clear hp2
        cases he : (eqB k1 k2 && eqB v1 v2)
        · go_wp2
          go_quiet (fail)
          go_wp2
          go_ret
          exact ⟨ret_bool (sameT_false (take_part HP1.out HP2.out he)).symm, below_drewN hb _⟩
        · go_wp2
          go_quiet (fail)
          go_wp2
          go_roundw
          case rel => exact ⟨i + 1, by omega, by go_num, below_drewN hb _, take_step HT.out HP1.out HP2.out he⟩
          case measure => simp [intOf]; omega
      · go_wp2
        go_ret
        exact ⟨ret_bool (sameT_true (take_end HL.out (by rw [HK.out, HNM.out]) (by omega) HT.out)).symm, hb⟩
  · have h0 : ((n : Int) != (m : Int)) = true := by simp; omega
    have hne : sameT ps qs = false := sameT_false (fun e => hnm (by rw [← hl, ← hk, e]))
    have HL := Lib.hid hl; clear hl
    have HK := Lib.hid hk; clear hk
    have HNE := Lib.hid hne; clear hne
    go_enter Try.func7, Try.ntmps7
    go_wp2
    go_ret
    exact ⟨ret_bool HNE.out.symm, Below.refl _ _⟩

set_option maxHeartbeats 400000 in
theorem slequal_any (A B : Option Addr) (n m c d : Nat) (ps qs : List Pr) (w : World) (hn : n ≤ 1000000) (hm : m ≤ 1000000) (hp : Tb w w.heap.size A n ps) (hq : Tb w w.heap.size B m qs) :
    Calls Try.prog 21 #[.slice A n c, .slice B m d] w fun e w' => e = .returned (.bool (sameT ps qs)) ∧ Below w.heap.size w w' := by
  have hl := hp.1
  have hk := hq.1
  by_cases hnm : n = m
  · have h0 : ((n : Int) != (m : Int)) = false := by simp [hnm]
    have HL := Lib.hid hl; clear hl
    have HK := Lib.hid hk; clear hk
    have HNM := Lib.hid hnm; clear hnm
    have np := neq_pair
    have gp := guard_pair
    go_enter Try.func21, Try.ntmps21
    go_wp2
    go_loopw [13] (fun x wr => ∃ i : Nat, i ≤ n ∧ x = .int .i64 i ∧ Below w.heap.size w wr ∧ ps.take i = qs.take i) (fun x _ => (n - (intOf x).toNat))
    case atStart => exact ⟨0, by omega, rfl, Below.refl _ _, rfl⟩
    case round =>
      obtain ⟨i, hi, rfl, hb, ht⟩ := hrel
      have HT := Lib.hid ht; clear ht
      by_cases hlt : i < n
      · have hn' := HNM.out
        have hlt2 : i < m := by omega
        clear hn'
        obtain ⟨b1, o1, rfl, hb1, hc1⟩ := (hp.below hb).2 (by omega)
        obtain ⟨b2, o2, rfl, hb2, hc2⟩ := (hq.below hb).2 (by omega)
        obtain ⟨⟨k1, v1⟩, hp1⟩ : ∃ p, ps[i]? = some p := ⟨_, List.getElem?_eq_getElem (by rw [HL.out]; omega)⟩
        obtain ⟨⟨k2, v2⟩, hp2⟩ : ∃ p, qs[i]? = some p := ⟨_, List.getElem?_eq_getElem (by rw [HK.out]; omega)⟩
        obtain ⟨c1, c2⟩ := hc1 _ _ hp1
        obtain ⟨d1, d2⟩ := hc2 _ _ hp2
        clear hc1 hc2
        simp only at c1 c2 d1 d2
        have HP1 := Lib.hid hp1; clear hp1
        have HP2 := Lib.hid hp2; clear hp2
        cases he : (eqB k1 k2 && eqB v1 v2)
        · go_wp2
          go_quiet (fail)
          go_wp2
          go_ret
          exact ⟨ret_bool (sameT_false (take_part HP1.out HP2.out he)).symm, below_drewN hb _⟩
        · go_wp2
          go_quiet (fail)
          go_wp2
          go_roundw
          case rel => exact ⟨i + 1, by omega, by go_num, below_drewN hb _, take_step HT.out HP1.out HP2.out he⟩
          case measure => simp [intOf]; omega
      · go_wp2
        go_ret
        exact ⟨ret_bool (sameT_true (take_end HL.out (by rw [HK.out, HNM.out]) (by omega) HT.out)).symm, hb⟩
  · have h0 : ((n : Int) != (m : Int)) = true := by simp; omega
    have hne : sameT ps qs = false := sameT_false (fun e => hnm (by rw [← hl, ← hk, e]))
    have HL := Lib.hid hl; clear hl
    have HK := Lib.hid hk; clear hk
    have HNE := Lib.hid hne; clear hne
    go_enter Try.func21, Try.ntmps21
    go_wp2
    go_ret
    exact ⟨ret_bool HNE.out.symm, Below.refl _ _⟩

set_option maxHeartbeats 400000 in
theorem modsame_any (A B : Option Addr) (n m c d : Nat) (ps qs : List Pr) (w : World) (hn : n ≤ 1000000) (hm : m ≤ 1000000) (hp : Tb w w.heap.size A n ps) (hq : Tb w w.heap.size B m qs) :
    Calls Try.prog 17 #[.slice A n c, .slice B m d] w fun e w' => e = .returned (.bool (sameT ps qs)) ∧ Below w.heap.size w w' := by
  go_enter Try.func17, Try.ntmps17
  go_wp2_with (go_at_call 21; refine (slequal_any _ _ _ _ _ _ ps qs _ hn hm hp hq).mono ?_; rintro e w' ⟨rfl, hb1⟩)
  go_ret
  exact ⟨rfl, hb1⟩

end Go.Proofs.Ytjgkiecepjlheaa
