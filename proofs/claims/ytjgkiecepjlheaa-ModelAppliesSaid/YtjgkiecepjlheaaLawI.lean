/- The walk of the law ModelIndexes. -/
import Derived.Test.YtjgkiecepjlheaaKnown
import Derived.Deep.RegionHeld3
import Derived.Deep.DeepCutAuto
namespace Go.Proofs.Ytjgkiecepjlheaa
open Go.RowKit

theorem few_take {cs : List Cm} (h : Few cs) (k : Nat) : Few (cs.take k) :=
  ⟨by have := h.1; rw [List.length_take]; omega, fun x hx => h.2 x (List.mem_of_mem_take hx)⟩
theorem tbl_len {cs : List Cm} (h : Few cs) : (tableT (wrs cs)).length ≤ 800 := by
  have := length_tableT cs h.2
  have := h.1
  omega
/-- the same table at a smaller count, or this one -/
theorem idxT_self {cs : List Cm} {k : Nat} (hk : k ≤ cs.length) : ∃ j : Nat, idxT cs (tableT (wrs (cs.take k))) = (j : Int) ∧ j ≤ k ∧ tableT (wrs (cs.take j)) = tableT (wrs (cs.take k)) := by
  have hs : sameT (tableT (wrs (cs.take k))) (tableT (wrs (cs.take k))) = true := sameT_true rfl
  unfold idxT
  cases h : (List.range (cs.length + 1)).find? (fun j => sameT (tableT (wrs (cs.take j))) (tableT (wrs (cs.take k)))) with
  | none =>
    rw [List.find?_eq_none] at h
    have := h k (by simp; omega)
    rw [hs] at this
    exact absurd rfl this
  | some j =>
    obtain ⟨h1, i, hi, hij, hlo⟩ := List.find?_eq_some_iff_getElem.1 h
    simp at hij
    subst hij
    refine ⟨i, rfl, ?_, ?_⟩
    · rcases Nat.lt_or_ge k i with hlt | hge
      · have := hlo k hlt
        simp [hs] at this
      · exact hge
    · unfold sameT at h1
      exact of_decide_eq_true h1

/-- the law's own search, from the end on -/
def wantP (cs : List Cm) (ps : List Pr) (n j : Nat) (v : Int) : Prop :=
  (v = -1 ∧ ∀ z, j ≤ z → z ≤ n → sameT (tableT (wrs (cs.take z))) ps = false) ∨
  (∃ k : Nat, v = k ∧ j ≤ k ∧ k ≤ n ∧ sameT (tableT (wrs (cs.take k))) ps = true ∧ ∀ z, j ≤ z → z < k → sameT (tableT (wrs (cs.take z))) ps = false)
theorem wantP_start (cs : List Cm) (ps : List Pr) (n : Nat) : wantP cs ps n (n + 1) (-1) := .inl ⟨rfl, fun z h1 h2 => by omega⟩
theorem wantP_yes {cs : List Cm} {ps : List Pr} {n k : Nat} (hk : k ≤ n) (h : sameT (tableT (wrs (cs.take k))) ps = true) : wantP cs ps n k (k : Int) :=
  .inr ⟨k, rfl, Nat.le_refl _, hk, h, fun z h1 h2 => by omega⟩
theorem wantP_no {cs : List Cm} {ps : List Pr} {n k : Nat} {v : Int} (hv : wantP cs ps n (k + 1) v) (h : sameT (tableT (wrs (cs.take k))) ps = false) : wantP cs ps n k v := by
  rcases hv with ⟨rfl, hlo⟩ | ⟨q, rfl, h1, h2, h3, hlo⟩
  · refine .inl ⟨rfl, fun z a b => ?_⟩
    by_cases e : z = k
    · subst e; exact h
    · exact hlo z (by omega) b
  · refine .inr ⟨q, rfl, by omega, h2, h3, fun z a b => ?_⟩
    by_cases e : z = k
    · subst e; exact h
    · exact hlo z (by omega) b
theorem wantP_end {cs : List Cm} {ps : List Pr} {n : Nat} {v : Int} (hl : cs.length = n) (hv : wantP cs ps n 0 v) : idxT cs ps = v := by
  rcases hv with ⟨rfl, hlo⟩ | ⟨q, rfl, h1, h2, h3, hlo⟩
  · exact idxT_none fun j hj => hlo j (Nat.zero_le _) (by omega)
  · exact idxT_some (by omega) h3 fun j hj => hlo j (Nat.zero_le _) hj

set_option maxHeartbeats 1000000 in
set_option maxRecDepth 100000 in
theorem lawI (A : Option Addr) (n c : Nat) (cs : List Cm) (x : Int) (D : Option Addr) (m d : Nat) (ps : List Pr) (w : World) (hn : n ≤ 9223372036854775807) (hnc : n ≤ c) (hm : m ≤ 9223372036854775807)
    (hx : -9223372036854775808 ≤ x ∧ x ≤ 9223372036854775807) (ht : Cb w w.heap.size A n cs) (hp : Tb w w.heap.size D m ps) :
    Calls Try.prog 3 #[.slice A n c, .int .i64 x, .slice D m d] w fun e w' => e = .returned (.bool true) ∧ Below w.heap.size w w' := by
  have hl := ht.1
  cases hf : fewB cs
  · go_enter Try.func3, Try.ntmps3
    go_wp2_with (first
      | (go_at_call 5; refine (few_any _ _ _ cs _ hn ht).mono ?_; rintro e w1 ⟨rfl, rfl⟩)
      | (go_at_call 6; refine (known_any _).mono ?_; rintro e w2 ⟨rfl, hb⟩))
    go_ret
    exact ⟨rfl, hb⟩
  · by_cases h40 : 40 < m
    · have h40' : (40 : Int) < (m : Int) := by omega
      go_enter Try.func3, Try.ntmps3
      go_wp2_with (first
        | (go_at_call 5; refine (few_any _ _ _ cs _ hn ht).mono ?_; rintro e w1 ⟨rfl, rfl⟩)
        | (go_at_call 6; refine (known_any _).mono ?_; rintro e w2 ⟨rfl, hb⟩))
      go_ret
      exact ⟨rfl, hb⟩
    · have h40' : decide ((40 : Int) < (m : Int)) = false := by simp; omega
      have few : Few cs := of_decide_eq_true hf
      have hn40 : n ≤ 40 := by have := few.1; omega
      have HL := Lib.hid hl; clear hl
      go_enter Try.func3, Try.ntmps3
      go_wp2_with (go_at_call 5; refine (few_any _ _ _ cs _ hn ht).mono ?_; rintro e w1 ⟨rfl, rfl⟩)
      go_loopw [7, 8] (fun a b wr => ∃ v i : Int, a = .int .i64 v ∧ b = .int .i64 i ∧ -1 ≤ i ∧ i ≤ (n : Int) ∧ wantP cs ps n (i + 1).toNat v ∧ Below w.heap.size w wr) (fun _ b _ => (intOf b + 1).toNat)
      case atStart => exact ⟨-1, n, rfl, rfl, by omega, by omega, by have := wantP_start cs ps n; rwa [show ((n : Int) + 1).toNat = n + 1 by omega], Below.refl _ _⟩
      case round =>
        obtain ⟨v, i, rfl, rfl, hi1, hi2, hv, hb⟩ := hrel
        have HV := Lib.hid hv; clear hv
        by_cases hi0 : 0 ≤ i
        · obtain ⟨k, rfl⟩ := Int.eq_ofNat_of_zero_le hi0
          have hkn : k ≤ n := by omega
          have hkc : k ≤ c := by omega
          have htk := ((ht.below hb).first k hkn).more hb.size
          have HTK := Lib.hid htk; clear htk
          have hps := (hp.below hb).more hb.size
          cases hs : sameT (tableT (wrs (cs.take k))) ps
          · have HS := Lib.hid hs
            go_wp2_with (first
              | (go_at_call 8; refine (tbl_any _ _ _ (cs.take k) _ (few_take few k) (by exact HTK.out)).mono ?_; rintro e w2 ⟨A2, n2, c2, rfl, hn2, ht2, hb2⟩
                 have hq2 : n2 ≤ 1000000 := by have := ht2.1; have := tbl_len (few_take few k); omega
                 have hps2 := (hps.below hb2).more hb2.size)
              | (go_at_call 7; refine (refsame_any _ _ _ _ _ _ _ ps _ hq2 (by omega) ht2 hps2).mono ?_; rintro e w3 ⟨rfl, hb3⟩))
            go_roundw
            case rel => exact ⟨v, (k : Int) - 1, rfl, rfl, by omega, by omega, by have := wantP_no (by have := HV.out; rwa [show ((k : Int) + 1).toNat = k + 1 by omega] at this) HS.out; rwa [show ((k : Int) - 1 + 1).toNat = k by omega], hb.trans ((hb2.trans (hb3.mono hb2.size)).mono hb.size)⟩
            case measure => simp [intOf]
          · have HS := Lib.hid hs
            go_wp2_with (first
              | (go_at_call 8; refine (tbl_any _ _ _ (cs.take k) _ (few_take few k) (by exact HTK.out)).mono ?_; rintro e w2 ⟨A2, n2, c2, rfl, hn2, ht2, hb2⟩
                 have hq2 : n2 ≤ 1000000 := by have := ht2.1; have := tbl_len (few_take few k); omega
                 have hps2 := (hps.below hb2).more hb2.size)
              | (go_at_call 7; refine (refsame_any _ _ _ _ _ _ _ ps _ hq2 (by omega) ht2 hps2).mono ?_; rintro e w3 ⟨rfl, hb3⟩))
            go_roundw
            case rel => exact ⟨k, (k : Int) - 1, rfl, rfl, by omega, by omega, by rw [show ((k : Int) - 1 + 1).toNat = k by omega]; exact wantP_yes hkn HS.out, hb.trans ((hb2.trans (hb3.mono hb2.size)).mono hb.size)⟩
            case measure => simp [intOf]
        · obtain rfl : i = -1 := by omega
          have hidx := wantP_end (by exact HL.out) HV.out
          have HI := Lib.hid hidx; clear hidx
          have htw := (ht.below hb).more hb.size
          have hps := (hp.below hb).more hb.size
          go_upto_if 39 with (first
            | (go_at_call 9; refine (idx_any _ _ _ cs _ _ _ ps _ few (by omega) htw hps).mono ?_; rintro e w2 ⟨rfl, hb2⟩; rw [HI.out]))
          go_cut [9] (fun s wx => ∃ k : Nat, k ≤ n ∧ s = .int .i64 k ∧ Below w.heap.size w wx)
          case first =>
            by_cases hx0 : 0 < x
            · obtain ⟨k, hk⟩ : ∃ k : Nat, x % ((n : Int) + 1) = (k : Int) := Int.eq_ofNat_of_zero_le (Int.emod_nonneg _ (by omega))
              have hkn : k ≤ n := by have := Int.emod_lt_of_pos x (b := (n : Int) + 1) (by omega); omega
              go_wp2_with fail
              go_meet
              exact ⟨k, hkn, by rw [hk], hb.trans (hb2.mono hb.size)⟩
            · go_wp2_with fail
              go_meet
              exact ⟨0, by omega, rfl, hb.trans (hb2.mono hb.size)⟩
          case rest =>
            obtain ⟨k, hkn, rfl, hbc⟩ := hcut
            have htk := ((ht.below hbc).first k hkn).more hbc.size
            have HTK := Lib.hid htk; clear htk
            have hkc : k ≤ c := by omega
            obtain ⟨j, hj, hjk, hjt⟩ := idxT_self (cs := cs) (k := k) (by rw [HL.out]; exact hkn)
            have HJ := Lib.hid hj; clear hj
            have HJT := Lib.hid hjt; clear hjt
            go_wp2_with (first
              | (go_at_call 10; refine (table_any _ _ _ (cs.take k) _ (few_take few k) (by exact HTK.out)).mono ?_; rintro e w3 ⟨A3, n3, c3, rfl, ht3, hb3⟩
                 have hq3 : n3 ≤ 1000000 := by have := ht3.1; have := tbl_len (few_take few k); omega
                 have htw3 := ((ht.below hbc).below (hb3.mono hbc.size)).more (Nat.le_trans hbc.size hb3.size))
              | (go_at_call 9; refine (idx_any _ _ _ cs _ _ _ (tableT (wrs (cs.take k))) _ few hq3 htw3 ht3).mono ?_; rintro e w4 ⟨rfl, hb4⟩; rw [HJ.out]))
            have hb4w : Below w.heap.size w w4 := hbc.trans ((hb3.trans (hb4.mono hb3.size)).mono hbc.size)
            have TBL : Hid (∀ (q : Nat) (W : World), q ≤ n → Below w.heap.size w W → Calls Try.prog 8 #[.slice A q c] W fun e W' => ∃ A' n' c', e = .returned (.slice A' n' c') ∧ n' ≤ c' ∧ Tb W' W'.heap.size A' n' (tableT (wrs (cs.take q))) ∧ Below W.heap.size W W') :=
              fun q W hq hW => tbl_any _ _ _ (cs.take q) _ (few_take few q) (((ht.below hW).first q hq).more hW.size)
            have hjc : j ≤ c := by omega
            have hj1 : ¬ ((j : Int) < 0) := by omega
            have hj2 : ¬ ((k : Int) < (j : Int)) := by omega
            have hjb1 : decide ((j : Int) < 0) = false := by simp
            have hjb2 : decide ((k : Int) < (j : Int)) = false := by simp; omega
            go_cut [69] (fun s wx => s = .bool false ∧ Below w.heap.size w wx)
            case first =>
              go_region_held3 (fun _ => True) (trivial) (first
                | (go_at_call_of 8 (Value.slice A j c); refine (TBL.out j _ (by omega) (by exact hb4w.drew)).mono ?_; rintro e w5 ⟨A5, n5, c5, rfl, hn5, ht5, hb5⟩)
                | (go_at_call_of 8 (Value.slice A k c); refine (TBL.out k _ (by omega) (by exact hb4w.drew.trans (hb5.mono hb4w.size))).mono ?_; rintro e w6 ⟨A6, n6, c6, rfl, hn6, ht6, hb6⟩)
                | (go_at_call 7; refine (refsame_any _ _ _ _ _ _ _ _ _ (by have := ht5.1; have := tbl_len (few_take few j); omega) (by have := ht6.1; have := tbl_len (few_take few k); omega) ((ht5.below hb6).more hb6.size) ht6).mono ?_; rintro e w7 ⟨rfl, hb7⟩; rw [sameT_true HJT.out]))
              go_wp2_with fail
              go_meet
              exact ⟨rfl, hb4w.drew.trans ((hb5.trans ((hb6.trans (hb7.mono hb6.size)).mono hb5.size)).mono hb4w.size)⟩
            case rest =>
              obtain ⟨rfl, hbd⟩ := hcut
              clear hb3 hb4 hb4w hbc hb2 hb
              by_cases hkn2 : k = n
              · have hkq : ((k : Int) == (n : Int)) = true := by simp [hkn2]
                have HK := Lib.hid hkn2; clear hkn2
                go_wp2_with (go_at_call 6; refine (known_any _).mono ?_; rintro e w2 ⟨rfl, hb⟩)
                go_ret
                exact ⟨rfl, hbd.trans (hb.mono hbd.size)⟩
              · have hkq : ((k : Int) == (n : Int)) = false := by simp; omega
                have hkl : k < n := by omega
                have hk1c : k + 1 ≤ c := by omega
                obtain ⟨b, o, rfl, hbw, hc⟩ := (ht.below hbd).2 (by omega)
                obtain ⟨⟨tl, lsn, node, xn, act, lev, told, lost, XA, xm, xc, xws⟩, hx'⟩ : ∃ y, cs[k]? = some y := ⟨_, List.getElem?_eq_getElem (by rw [HL.out]; omega)⟩
                obtain ⟨c0, c1, c2, c3, c4, c5, c6, c7, c8, hw⟩ := hc _ _ hx'
                have hxl : xws.length ≤ 20 := few.2 _ (List.mem_of_getElem? hx')
                simp only at c8 hw
                have hst := wrs_take hx'
                simp only at hst
                have HST := Lib.hid hst
                have hxm : xm ≤ 1000 := by have := hw.1; omega
                have HX := Lib.hid hx'
                clear c0 c1 c2 c3 c4 c5 c6 c7 hc hst hx'
                have TBM : Hid (∀ (q : Nat) (W : World), q ≤ n → Below w.heap.size w W → Calls Try.prog 10 #[.slice (some ⟨b, o, none⟩) q c] W fun e W' => ∃ A' n' c', e = .returned (.slice A' n' c') ∧ Tb W' W'.heap.size A' n' (tableT (wrs (cs.take q))) ∧ Below W.heap.size W W') :=
                  fun q W hq hW => table_any _ _ _ (cs.take q) _ (few_take few q) (((ht.below hW).first q hq).more hW.size)
                have hbc1 : b < wc.heap.size := Nat.lt_of_lt_of_le hbw hbd.size
                have hpk1 : IntKind.i64.wrap ((k : Int) + 1) = (k : Int) + 1 := by rw [IntKind.wrap_i64]; omega
                have hpk2 : (0 : Int) ≤ (k : Int) + 1 := by omega
                have hpk3 : (k : Int) + 1 ≤ (c : Int) := by omega
                have hpk4 : ((k : Int) + 1).toNat = k + 1 := by omega
                go_wp2_with fail
                go_region_held3 (fun W => W.cell? ⟨b, o + k * 9 + 8, none⟩ = some (.slice XA xm xc)) (go_keep) (first
                  | (go_at_call 10; ((with_reducible refine (TBM.out (k + 1) _ (by omega) (by exact hbd.drew)).mono ?_); rintro e w5 ⟨A5, n5, c5, rfl, ht5, hb5⟩; have s5 := (hb5.cell (p := ⟨b, o + k * 9 + 8, none⟩) hbc1).trans c8; have l5 := Nat.lt_of_lt_of_le hbc1 hb5.size))
                  | (go_at_call 10; ((with_reducible refine (TBM.out k _ (by omega) (by with_unfolding_all exact hbd.drew.trans (hb5.mono hbd.size))).mono ?_); rintro e w6 ⟨A6, n6, c6, rfl, ht6, hb6⟩; have s6 := (hb6.cell (p := ⟨b, o + k * 9 + 8, none⟩) l5).trans s5; have l6 := Nat.lt_of_lt_of_le l5 hb6.size))
                  | (go_at_call 11; refine (apply_any _ _ _ (tableT (wrs (cs.take k))) _ _ _ xws _ (by have := ht6.1; have := tbl_len (few_take few k); omega) hxm (srt_tableT _) ht6 (by exact (hw.below ((Below.refl _ wc).drew.trans ((hb5.trans (hb6.mono hb5.size)).mono hbd.size))).more (Nat.le_trans (Nat.le_trans hbd.size hb5.size) hb6.size))).mono ?_
                     rintro e w8 ⟨A8, n8, c8', rfl, ht8, hb8⟩
                     rw [← HST.out] at ht8
                     have s8 := (hb8.cell (p := ⟨b, o + k * 9 + 8, none⟩) l6).trans s6; have l8 := Nat.lt_of_lt_of_le l6 hb8.size)
                  | (go_at_call 7; refine (refsame_any _ _ _ _ _ _ _ _ _ (by have := ht5.1; have := tbl_len (few_take few (k + 1)); omega) (by have := ht8.1; have := tbl_len (few_take few (k + 1)); omega) ((ht5.below (hb6.trans (hb8.mono hb6.size))).more (Nat.le_trans hb6.size hb8.size)) ht8).mono ?_
                     rintro e w9 ⟨rfl, hb9⟩; rw [sameT_true rfl]; have s9 := (hb9.cell (p := ⟨b, o + k * 9 + 8, none⟩) l8).trans s8; have l9 := Nat.lt_of_lt_of_le l8 hb9.size)
                  | (go_at_call 6; refine (known_any _).mono ?_; rintro e w10 ⟨rfl, hb10⟩; have s10 := (hb10.cell (p := ⟨b, o + k * 9 + 8, none⟩) l9).trans s9))
                go_wp2_with fail
                go_ret
                exact ⟨rfl, hbd.drew.trans ((hb5.trans ((hb6.trans ((hb8.trans ((hb9.trans (hb10.mono hb9.size)).mono hb8.size)).mono hb6.size)).mono hb5.size)).mono hbd.size)⟩

end Go.Proofs.Ytjgkiecepjlheaa
