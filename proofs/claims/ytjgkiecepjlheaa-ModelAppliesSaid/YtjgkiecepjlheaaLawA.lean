/- The walk of the law ModelApplies. -/
import Derived.Test.YtjgkiecepjlheaaLawI
import Derived.Test.YtjgkiecepjlheaaGet
namespace Go.Proofs.Ytjgkiecepjlheaa
open Go.RowKit

set_option maxHeartbeats 4000000 in
set_option maxRecDepth 100000 in
theorem lawA (A : Option Addr) (n c : Nat) (cs : List Cm) (D : Option Addr) (m d : Nat) (ws : List Wr) (key sa sb : ByteArray) (w : World) (hn : n ≤ 9223372036854775807) (hm : m ≤ 9223372036854775807)
    (ht : Cb w w.heap.size A n cs) (hw : Wb w w.heap.size D m ws) :
    Calls Try.prog 4 #[.slice A n c, .slice D m d, .string key, .string sa, .string sb] w fun e w' => e = .returned (.bool true) ∧ Below w.heap.size w w' := by
  have hl := ht.1
  cases hf : fewB cs
  · go_enter Try.func4, Try.ntmps4
    go_wp2_with (first
      | (go_at_call 5; refine (few_any _ _ _ cs _ hn ht).mono ?_; rintro e w1 ⟨rfl, rfl⟩)
      | (go_at_call 6; refine (known_any _).mono ?_; rintro e w2 ⟨rfl, hb⟩))
    go_ret
    exact ⟨rfl, hb⟩
  · by_cases h20 : 20 < m
    · have h20' : (20 : Int) < (m : Int) := by omega
      go_enter Try.func4, Try.ntmps4
      go_wp2_with (first
        | (go_at_call 5; refine (few_any _ _ _ cs _ hn ht).mono ?_; rintro e w1 ⟨rfl, rfl⟩)
        | (go_at_call 6; refine (known_any _).mono ?_; rintro e w2 ⟨rfl, hb⟩))
      go_ret
      exact ⟨rfl, hb⟩
    · have h20' : decide ((20 : Int) < (m : Int)) = false := by simp; omega
      have few : Few cs := of_decide_eq_true hf
      have HL := Lib.hid hl; clear hl
      have hT := tbl_len few
      have hsT := srt_tableT (wrs cs)
      have hU := length_stepsT ws (tableT (wrs cs))
      have hsU := srt_stepsT hsT ws
      rw [hw.1] at hU
      have HTT : ∀ T, tableT (wrs cs) = T → Hid (tableT (wrs cs) = T) := fun T h => h
      generalize hTe : tableT (wrs cs) = T at hT hsT hU hsU
      generalize hUe : stepsT T ws = U at hU hsU
      have HT := Lib.hid hTe; clear hTe HTT
      have HU := Lib.hid hUe; clear hUe
      have hsame : ∀ Q : List Pr, sameT Q Q = true := fun Q => sameT_true rfl
      have HS := Lib.hid hsame; clear hsame
      obtain ⟨gv, gb, hg⟩ : ∃ gv gb, Hid (∀ e, getR U key e → e = .returned (.tuple #[.string gv, .bool gb])) := ⟨_, _, fun e h => h⟩
      go_enter Try.func4, Try.ntmps4
      go_wp2_with fail
      refine (few_any _ _ _ cs _ hn ht).mono ?_; rintro e w1 ⟨rfl, rfl⟩
      rw [hf]
      go_wp2_with fail
      refine (table_any _ _ _ cs _ few ht).mono ?_; rintro e w1 ⟨A1, n1, c1, rfl, ht1, hb1⟩
      rw [HT.out] at ht1
      have hn1 : n1 ≤ 800 := by have := ht1.1; omega
      go_wp2_with fail
      refine (tbl_any _ _ _ cs _ few ((ht.below hb1).more hb1.size)).mono ?_; rintro e w2 ⟨A2, n2, c2, rfl, hn2, ht2, hb2⟩
      rw [HT.out] at ht2
      have hq2 : n2 ≤ 800 := by have := ht2.1; omega
      have ht1b := (ht1.below hb2).more hb2.size
      go_wp2_with fail
      refine (refsame_any _ _ _ _ _ _ T T _ (by omega) (by omega) ht1b ht2).mono ?_; rintro e w3 ⟨rfl, hb3⟩
      rw [HS.out]
      have ht1c := (ht1b.below hb3).more hb3.size
      have hb123 : Below w.heap.size w w3 := hb1.trans ((hb2.trans (hb3.mono hb2.size)).mono hb1.size)
      go_wp2_with (at_builtin; refine wpList_append_tb rfl (.const (.slice none 0 0)) (.tmp 35) rfl w3.heap.size 0 w3.heap.size n1 c1 (.slice none 0 0) [] T A1 rfl rfl (World.ownsRow_nil _ _ _ _) ht1c (by omega) (Nat.le_refl _) ?_; intro v4 w4 hown4 hgr4)
      have hb4 : Below w3.heap.size w3 w4 := (Below.refl _ _).grown hgr4 (Nat.le_refl _) (fun k hk => by simp [Value.ownBlock] at hk)
      obtain ⟨Ao, co, rfl, hco, hto⟩ := own_tb' hown4
      rw [List.nil_append] at hto
      have hno : 0 + n1 ≤ 800 := by omega
      generalize 0 + n1 = no at hno hto hco
      clear hown4 hgr4 ht2
      have ht1d := (ht1c.below hb4).more hb4.size
      have hb14 := hb123.trans (hb4.mono hb123.size)
      have hwd := (hw.below hb14).more hb14.size
      have hm20 : m ≤ 1000 := by omega
      refine (apply_any2 _ _ _ T _ _ _ ws _ (by omega) hm20 hsT ht1d hwd).mono ?_; rintro e w5 ⟨Au, nu, cu, rfl, hcu, htu, hb5⟩
      rw [HU.out] at htu
      have hnu : nu ≤ 900 := by have := htu.1; omega
      have hb15 := hb14.trans (hb5.mono hb14.size)
      have ht5 := (ht1d.below hb5).more hb5.size
      have hto5 := (hto.below hb5).more hb5.size
      go_wp2_with fail
      refine (tbl_any _ _ _ cs _ few ((ht.below hb15).more hb15.size)).mono ?_; rintro e w6 ⟨A6, n6, c6, rfl, hn6, ht6, hb6⟩
      rw [HT.out] at ht6
      have hq6 : n6 ≤ 900000 := by have := ht6.1; omega
      have hb16 := hb15.trans (hb6.mono hb15.size)
      go_wp2_with fail
      refine (refapply_any _ _ _ T _ _ _ ws _ hn6 hq6 hm20 ht6 ((hw.below hb16).more hb16.size)).mono ?_; rintro e w7 ⟨A7, n7, c7, rfl, hn7, ht7, hb7⟩
      rw [HU.out] at ht7
      have hq7 : n7 ≤ 900 := by have := ht7.1; omega
      have hb17 := hb16.trans (hb7.mono hb16.size)
      have hb57 := hb6.trans (hb7.mono hb6.size)
      have htu7 := (htu.below hb57).more hb57.size
      go_wp2_with fail
      refine (refsame_any _ _ _ _ _ _ U U _ (by omega) (by omega) htu7 ht7).mono ?_; rintro e w8 ⟨rfl, hb8⟩
      rw [HS.out]
      have hb58 := hb57.trans (hb8.mono hb57.size)
      have htu8 := (htu.below hb58).more hb58.size
      have hto8 := (hto5.below hb58).more hb58.size
      have ht8 := (ht5.below hb58).more hb58.size
      have hb18 := hb15.trans (hb58.mono hb15.size)
      clear ht6 ht7 htu7 hb57 hb17 hb16
      go_wp2_with fail
      refine (refsame_any _ _ _ _ _ _ T T _ (by omega) (by omega) ht8 hto8).mono ?_; rintro e w9 ⟨rfl, hb9⟩
      rw [HS.out]
      have htu9 := (htu8.below hb9).more hb9.size
      have hto9 := (hto8.below hb9).more hb9.size
      have ht9 := (ht8.below hb9).more hb9.size
      have hb19 := hb18.trans (hb9.mono hb18.size)
      go_wp2_with fail
      refine (get_any _ _ _ U _ _ (by omega) htu9 hsU).mono ?_; rintro e w10 ⟨he, hb10⟩
      obtain rfl := hg.out _ he
      clear he
      have htu10 := (htu9.below hb10).more hb10.size
      go_wp2_with fail
      refine (refget_any _ _ _ U _ _ (by omega) htu10).mono ?_; rintro e w10' ⟨he, rfl⟩
      obtain rfl := hg.out _ he
      clear he
      have hgv : (gv.toList != gv.toList) = false := by simp
      have hgb : (gb != gb) = false := by simp
      go_wp2_with fail
      refine (scan_any _ _ _ U _ _ _ (by omega) hcu htu10 hsU).mono ?_; rintro e w11 ⟨A11, n11, c11, rfl, ht11, hb11⟩
      have htu11 := (htu10.below hb11).more hb11.size
      go_wp2_with fail
      refine (refscan_any _ _ _ U _ _ _ (by omega) htu11).mono ?_; rintro e w12 ⟨A12, n12, c12, rfl, ht12, hb12⟩
      have hsl : (scanT U sa sb).length ≤ 900 := by
        have : (scanT U sa sb).length ≤ U.length := List.length_filter_le _ _
        have := htu.1
        omega
      have hn11 : n11 ≤ 900 := by have := ht11.1; omega
      have hn12 : n12 ≤ 900 := by have := ht12.1; omega
      go_wp2_with fail
      refine (refsame_any _ _ _ _ _ _ _ _ _ (by omega) (by omega) ((ht11.below hb12).more hb12.size) ht12).mono ?_; rintro e w13 ⟨rfl, hb13⟩
      rw [HS.out]
      have hbA := hb10.trans ((hb11.trans ((hb12.trans (hb13.mono hb12.size)).mono hb11.size)).mono hb10.size)
      have htu13 := (htu9.below hbA).more hbA.size
      have hto13 := (hto9.below hbA).more hbA.size
      have ht13 := (ht9.below hbA).more hbA.size
      have hb113 := hb19.trans (hbA.mono hb19.size)
      go_wp2_with fail
      have HUL : Hid (U.length = nu) := htu.1
      have HSU := Lib.hid hsU
      clear hbA hb10 hb11 hb12 hb13 ht11 ht12 htu htu8 htu9 htu10 htu11 hto hto5 hto8 hto9 ht1 ht1b ht1c ht1d ht5 ht8 ht9 hb1 hb2 hb3 hb4 hb5 hb6 hb7 hb8 hb9 hb14 hb15 hb18 hb19 hb58 hb123 hwd hg hgv hgb hU hsU hT hsT hsl
      go_loopw [18] (fun x wr => ∃ j : Nat, (j + 1 ≤ nu ∨ j = 0) ∧ x = .int .i64 ((j : Int) + 1) ∧ Below w13.heap.size w13 wr) (fun x _ => nu - (intOf x).toNat)
      case atStart => exact ⟨0, by omega, rfl, Below.refl _ _⟩
      case round =>
        obtain ⟨j, hj, rfl, hb⟩ := hrel
        by_cases hlt : j + 1 < nu
        · obtain ⟨b, o, rfl, hbw, hc⟩ := (htu13.below hb).2 (by omega)
          obtain ⟨⟨k1, v1⟩, hp1⟩ : ∃ p, U[j]? = some p := ⟨_, List.getElem?_eq_getElem (by rw [HUL.out]; omega)⟩
          obtain ⟨⟨k2, v2⟩, hp2⟩ : ∃ p, U[j + 1]? = some p := ⟨_, List.getElem?_eq_getElem (by rw [HUL.out]; omega)⟩
          obtain ⟨d1, d1'⟩ := hc _ _ hp1
          obtain ⟨d2, d2'⟩ := hc _ _ hp2
          simp only at d1 d2
          have hlk := srt_get HSU.out (Nat.lt_succ_self j) hp1 hp2
          simp only at hlk
          have e1 : Op.bytesLess k2.toList k1.toList = false := ltB_asymm hlk
          have e2 : (k2.toList == k1.toList) = false := by have := eqB_false_of_lt hlk; rwa [eqB_comm] at this
          clear hc hp1 hp2 hlk d1' d2'
          have q1 : ((j : Int) + 1).toNat = j + 1 := by omega
          have q2 : IntKind.i64.wrap ((j : Int) + 1 - 1) = (j : Int) := by rw [IntKind.wrap_i64]; omega
          have q3 : (0 : Int) ≤ (j : Int) + 1 := by omega
          have q4 : (j : Int) + 1 < (nu : Int) := by omega
          have q5 : (j : Int) < (nu : Int) := by omega
          go_wp2_with fail
          go_quiet (fail)
          go_wp2_with fail
          go_roundw
          case rel => exact ⟨j + 1, by omega, by go_num, below_drewN hb _⟩
          case measure => simp [intOf]; omega
        · have q4 : ¬ ((j : Int) + 1 < (nu : Int)) := by omega
          have hsz := hb.size
          obtain ⟨tu, htx⟩ : ∃ tu, Hid (sameT T U = tu) := ⟨_, rfl⟩
          have htow := (hto13.below hb).more hsz
          have htw := (ht13.below hb).more hsz
          have htuw := (htu13.below hb).more hsz
          have hbw := hb113.trans (hb.mono hb113.size)
          go_wp2_with fail
          refine (modsame_any _ _ _ _ _ _ T T _ (by omega) (by omega) htw htow).mono ?_; rintro e w14 ⟨rfl, hb14⟩
          rw [HS.out]
          have htw2 := (htw.below hb14).more hb14.size
          have htuw2 := (htuw.below hb14).more hb14.size
          go_wp2_with fail
          refine (modsame_any _ _ _ _ _ _ T U _ (by omega) (by omega) htw2 htuw2).mono ?_; rintro e w15 ⟨rfl, hb15⟩
          rw [htx.out]
          have htu2 : (tu == tu) = true := by simp
          go_wp2_with fail
          refine (refsame_any _ _ _ _ _ _ T U _ (by omega) (by omega) ((htw2.below hb15).more hb15.size) ((htuw2.below hb15).more hb15.size)).mono ?_; rintro e w16 ⟨rfl, hb16⟩
          rw [htx.out]
          have hbz := hbw.trans ((hb14.trans ((hb15.trans (hb16.mono hb15.size)).mono hb14.size)).mono hbw.size)
          go_wp2_with (go_at_call 6; refine (known_any _).mono ?_; rintro e w17 ⟨rfl, hb17⟩)
          go_ret
          exact ⟨rfl, hbz.trans (hb17.mono hbz.size)⟩

end Go.Proofs.Ytjgkiecepjlheaa
