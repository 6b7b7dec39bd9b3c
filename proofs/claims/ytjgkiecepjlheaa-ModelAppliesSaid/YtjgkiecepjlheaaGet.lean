/- The walks of Get and Scan, the program's and the document's. -/
import Derived.Test.YtjgkiecepjlheaaIdx
namespace Go.Proofs.Ytjgkiecepjlheaa
open Go.RowKit

def getR (ps : List Pr) (k : ByteArray) (e : Ending) : Prop := e = .returned (.tuple #[.string ((getT ps k).getD ⟨#[]⟩), .bool (getT ps k).isSome])
theorem getR_some {ps : List Pr} {k v : ByteArray} (h : getT ps k = some v) : getR ps k (.returned (.tuple #[.string v, .bool true])) := by unfold getR; rw [h]; rfl
theorem getR_none {ps : List Pr} {k : ByteArray} (h : getT ps k = none) : getR ps k (.returned (.tuple #[.string ⟨#[]⟩, .bool false])) := by unfold getR; rw [h]; rfl

set_option maxHeartbeats 400000 in
theorem get_any (A : Option Addr) (n c : Nat) (ps : List Pr) (key : ByteArray) (w : World) (hn : n ≤ 1000000) (ht : Tb w w.heap.size A n ps) (hs : Srt ps) :
    Calls Try.prog 13 #[.slice A n c, .string key] w fun e w' => getR ps key e ∧ Below w.heap.size w w' := by
  cases hh : hasT ps key
  · have hg := getR_none (getT_of_not hs hh)
    have HG := Lib.hid hg; clear hg
    go_enter Try.func13, Try.ntmps13
    go_wp2_with (go_at_call 20; refine (find_any _ _ _ ps _ _ hn ht hs).mono ?_; rintro e w' ⟨he, hb1⟩; unfold searchR at he; subst he)
    go_ret2
    exact ⟨HG.out, hb1⟩
  · obtain ⟨⟨k, v⟩, hq, hk⟩ := hasT_iff.1 hh
    have hg := getR_some (getT_of_has hq hk)
    have HG := Lib.hid hg; clear hg
    have hlt : pos ps key < n := by have := (List.getElem?_eq_some_iff.1 hq).1; have := ht.1; omega
    obtain ⟨b, o, rfl, hb, hc⟩ := ht.2 (by omega)
    obtain ⟨c0, c1⟩ := hc _ _ hq
    simp only at c0 c1
    have HQ := Lib.hid hq; clear hq hc hk
    go_enter Try.func13, Try.ntmps13
    go_wp2_with (go_at_call 20; refine (find_any _ _ _ ps _ _ hn ht hs).mono ?_; rintro e w' ⟨he, hb1⟩; unfold searchR at he; subst he; have d1 := (hb1.cell (p := ⟨b, o + pos ps key * 2 + 1, none⟩) hb).trans c1)
    go_ret2
    exact ⟨HG.out, hb1⟩

theorem getT_at {ps : List Pr} {k k1 v : ByteArray} {i : Nat} (h : ps[i]? = some (k1, v)) (he : (k1.toList == k.toList) = true) (hlo : ∀ j p, j < i → ps[j]? = some p → eqB p.1 k = false) : getT ps k = some v := by
  unfold getT
  have : ps.find? (fun p => eqB p.1 k) = some (k1, v) := by
    rw [List.find?_eq_some_iff_getElem]
    obtain ⟨hl, e⟩ := List.getElem?_eq_some_iff.1 h
    refine ⟨he, i, hl, e, fun j hj => ?_⟩
    simp [hlo j _ hj (List.getElem?_eq_getElem (by omega))]
  rw [this]; rfl
theorem getT_end {ps : List Pr} {k : ByteArray} (hlo : ∀ (j : Nat) (p : Pr), ps[j]? = some p → eqB p.1 k = false) : getT ps k = none := by
  unfold getT
  have : ps.find? (fun p => eqB p.1 k) = none := by
    rw [List.find?_eq_none]
    intro p hp
    obtain ⟨j, hj⟩ := List.getElem?_of_mem hp
    simp [hlo j p hj]
  rw [this]; rfl

set_option maxHeartbeats 400000 in
theorem refget_any (A : Option Addr) (n c : Nat) (ps : List Pr) (key : ByteArray) (w : World) (hn : n ≤ 1000000) (ht : Tb w w.heap.size A n ps) :
    Calls Try.prog 14 #[.slice A n c, .string key] w fun e w' => getR ps key e ∧ w = w' := by
  have hl := ht.1
  have HL := Lib.hid hl; clear hl
  go_enter Try.func14, Try.ntmps14
  go_wp2
  go_loop [6] (fun x => ∃ i : Nat, i ≤ n ∧ x = .int .i64 i ∧ ∀ j p, j < i → ps[j]? = some p → eqB p.1 key = false) (fun x => n - (intOf x).toNat)
  case atStart => exact ⟨0, by omega, rfl, fun _ _ h => by omega⟩
  case round =>
    obtain ⟨i, hi, rfl, hlo⟩ := hrel
    have HLO := Lib.hid hlo; clear hlo
    by_cases hlt : i < n
    · obtain ⟨b, o, rfl, hbw, hc⟩ := ht.2 (by omega)
      obtain ⟨⟨k1, v1⟩, hp⟩ : ∃ p, ps[i]? = some p := ⟨_, List.getElem?_eq_getElem (by rw [HL.out]; omega)⟩
      obtain ⟨c0, c1⟩ := hc _ _ hp
      simp only at c0 c1
      have HP := Lib.hid hp; clear hp hc
      cases he : (k1.toList == key.toList)
      · go_wp2
        go_round
        case rel =>
          refine ⟨i + 1, by omega, by go_num, fun j p hj hp => ?_⟩
          by_cases hji : j = i
          · subst hji; rw [HP.out] at hp; cases hp; exact he
          · exact HLO.out j p (by omega) hp
        case measure => simp [intOf]; omega
      · have hg := getR_some (getT_at HP.out he HLO.out)
        have HG := Lib.hid hg; clear hg
        go_wp2
        go_ret2
        exact ⟨HG.out, rfl⟩
    · have hg := getR_none (ps := ps) (k := key) (getT_end fun j p hj => HLO.out j p (by have := (List.getElem?_eq_some_iff.1 hj).1; rw [HL.out] at this; omega) hj)
      have HG := Lib.hid hg; clear hg
      go_wp2
      go_ret2
      exact ⟨HG.out, rfl⟩

theorem Tb.first {w : World} {B n : Nat} {A : Option Addr} {ps : List Pr} (h : Tb w B A n ps) (k : Nat) (hk : k ≤ n) : Tb w B A k (ps.take k) :=
  ⟨by rw [List.length_take, h.1]; omega, fun hn => by
    obtain ⟨b, o, e, hb, hc⟩ := h.2 (by omega)
    refine ⟨b, o, e, hb, fun j x hx => hc j x ?_⟩
    rw [List.getElem?_take] at hx
    split at hx
    · exact hx
    · cases hx⟩

set_option maxHeartbeats 1000000 in
theorem scan_any (A : Option Addr) (n c : Nat) (ps : List Pr) (a b : ByteArray) (w : World) (hn : n ≤ 900000) (hnc : n ≤ c) (ht : Tb w w.heap.size A n ps) (hs : Srt ps) :
    Calls Try.prog 15 #[.slice A n c, .string a, .string b] w fun e w' => ∃ A' n' c', e = .returned (.slice A' n' c') ∧ Tb w' w'.heap.size A' n' (scanT ps a b) ∧ Below w.heap.size w w' := by
  have hsc := scanT_eq hs a b
  have hl := ht.1
  have hpa : pos ps a ≤ n := by have := pos_le ps a; omega
  have hpb : pos ps b ≤ n := by have := pos_le ps b; omega
  rw [hl] at hsc
  have HL := Lib.hid hl; clear hl
  cases he : b.toList.isEmpty
  · rw [he] at hsc
    simp only [Bool.false_eq_true, if_false] at hsc
    have HSC := Lib.hid hsc; clear hsc
    have he2 : (!b.toList.isEmpty) = true := by simp [he]
    have he3 : (b.toList == []) = false := by simpa using he
    by_cases hlt : pos ps a < pos ps b
    · have hq : ¬ ((pos ps b : Int) ≤ (pos ps a : Int)) := by omega
      have hcut := fun (W : World) (hW : Below w.heap.size w W) => (((ht.below hW).first (pos ps b) hpb).cut (k := pos ps a) (c := c) (by omega) (by omega)).more hW.size
      rw [← HSC.out, if_neg (by omega)] at hcut
      have HC := Lib.hid hcut; clear hcut
      go_enter Try.func15, Try.ntmps15
      go_wp2_with fail
      refine (find_any _ _ _ ps _ _ (by omega) ht hs).mono ?_
      rintro e w1 ⟨he, hb1⟩
      unfold searchR at he
      subst he
      have ht1 := (ht.below hb1).more hb1.size
      go_wp2_with fail
      refine (find_any _ _ _ ps _ _ (by omega) ht1 hs).mono ?_
      rintro e w2 ⟨he, hb2⟩
      unfold searchR at he
      subst he
      have hb12 := hb1.trans (hb2.mono hb1.size)
      go_wp2_with (go_at_call 19; refine (clone_any _ _ _ (scanT ps a b) _ (by omega) (HC.out _ hb12)).mono ?_; rintro e w3 ⟨v, rfl, hown, hb3⟩)
      go_ret
      obtain ⟨A', c', rfl, ht'⟩ := own_tb hown
      exact ⟨A', _, c', rfl, ht', hb12.trans (hb3.mono hb12.size)⟩
    · have hq : ((pos ps b : Int) ≤ (pos ps a : Int)) := by omega
      rw [List.drop_of_length_le (by rw [List.length_take]; omega)] at HSC
      go_enter Try.func15, Try.ntmps15
      go_wp2_with fail
      refine (find_any _ _ _ ps _ _ (by omega) ht hs).mono ?_
      rintro e w1 ⟨he, hb1⟩
      unfold searchR at he
      subst he
      have ht1 := (ht.below hb1).more hb1.size
      go_wp2_with fail
      refine (find_any _ _ _ ps _ _ (by omega) ht1 hs).mono ?_
      rintro e w2 ⟨he, hb2⟩
      unfold searchR at he
      subst he
      go_wp2_with fail
      go_ret
      exact ⟨none, 0, 0, rfl, by rw [HSC.out]; exact ⟨rfl, fun h => by omega⟩, hb1.trans (hb2.mono hb1.size)⟩
  · rw [he] at hsc
    simp only [if_true] at hsc
    have HSC := Lib.hid hsc; clear hsc
    have he2 : (!b.toList.isEmpty) = false := by simp [he]
    have he3 : (b.toList == []) = true := by simpa using he
    by_cases hlt : pos ps a < n
    · have hq : ¬ ((n : Int) ≤ (pos ps a : Int)) := by omega
      have hcut := fun (W : World) (hW : Below w.heap.size w W) => (((ht.below hW).first n (Nat.le_refl _)).cut (k := pos ps a) (c := c) (by omega) (by omega)).more hW.size
      rw [← HSC.out, if_neg (by omega)] at hcut
      have HC := Lib.hid hcut; clear hcut
      go_enter Try.func15, Try.ntmps15
      go_wp2_with (first
        | (go_at_call 20; refine (find_any _ _ _ ps _ _ (by omega) ht hs).mono ?_; rintro e w1 ⟨he, hb1⟩; unfold searchR at he; subst he)
        | (go_at_call 19; refine (clone_any _ _ _ (scanT ps a b) _ (by omega) (HC.out _ hb1)).mono ?_; rintro e w3 ⟨v, rfl, hown, hb3⟩))
      go_ret
      obtain ⟨A', c', rfl, ht'⟩ := own_tb hown
      exact ⟨A', _, c', rfl, ht', hb1.trans (hb3.mono hb1.size)⟩
    · have hq : ((n : Int) ≤ (pos ps a : Int)) := by omega
      rw [List.drop_of_length_le (by rw [List.length_take]; omega)] at HSC
      go_enter Try.func15, Try.ntmps15
      go_wp2_with (go_at_call 20; refine (find_any _ _ _ ps _ _ (by omega) ht hs).mono ?_; rintro e w1 ⟨he, hb1⟩; unfold searchR at he; subst he)
      go_ret
      exact ⟨none, 0, 0, rfl, by rw [HSC.out]; exact ⟨rfl, fun h => by omega⟩, hb1⟩

theorem filter_take {ps : List Pr} {f : Pr → Bool} {i : Nat} {p : Pr} (h : ps[i]? = some p) : (ps.take (i + 1)).filter f = (ps.take i).filter f ++ if f p then [p] else [] := by
  rw [List.take_add_one, h, List.filter_append]
  cases hf : f p <;> simp [hf]

set_option maxHeartbeats 1000000 in
theorem refscan_any (A : Option Addr) (n c : Nat) (ps : List Pr) (a b : ByteArray) (w : World) (hn : n ≤ 900000) (ht : Tb w w.heap.size A n ps) :
    Calls Try.prog 16 #[.slice A n c, .string a, .string b] w fun e w' => ∃ A' n' c', e = .returned (.slice A' n' c') ∧ Tb w' w'.heap.size A' n' (scanT ps a b) ∧ Below w.heap.size w w' := by
  have hl := ht.1
  have HL := Lib.hid hl; clear hl
  go_enter Try.func16, Try.ntmps16
  go_wp2
  go_loopw [7, 8] (fun v x wr => ∃ i q : Nat, i ≤ n ∧ q ≤ i ∧ x = .int .i64 i ∧ wr.ownsRow w.heap.size 40 2 v q (flat ((ps.take i).filter (inT a b))) ∧ Below w.heap.size w wr) (fun _ x _ => n - (intOf x).toNat)
  case atStart => exact ⟨0, 0, by omega, by omega, rfl, World.ownsRow_nil _ _ _ _, Below.refl _ _⟩
  case round =>
    obtain ⟨i, q, hi, hqi, rfl, hown, hb⟩ := hrel
    have HO := Lib.hid hown; clear hown
    by_cases hlt : i < n
    · obtain ⟨b1, o1, rfl, hbw, hc⟩ := (ht.below hb).2 (by omega)
      obtain ⟨⟨k1, v1⟩, hp⟩ : ∃ p, ps[i]? = some p := ⟨_, List.getElem?_eq_getElem (by rw [HL.out]; omega)⟩
      obtain ⟨c0, c1⟩ := hc _ _ hp
      simp only at c0 c1
      have hft := filter_take (f := inT a b) hp
      have HP := Lib.hid hp; clear hp hc
      have hin : inT a b (k1, v1) = (!Op.bytesLess k1.toList a.toList && (b.toList.isEmpty || Op.bytesLess k1.toList b.toList)) := rfl
      rw [hin] at hft
      clear hin
      cases h1 : Op.bytesLess k1.toList a.toList
      · cases h2 : b.toList.isEmpty
        · have he3 : (b.toList == []) = false := by simpa using h2
          cases h3 : Op.bytesLess k1.toList b.toList
          · rw [h1, h2, h3] at hft
            have HF := Lib.hid hft; clear hft
            go_wp2
            go_roundw
            case rel => exact ⟨i + 1, q, by omega, by omega, by go_num, by rw [HF.out]; simpa using HO.out, hb⟩
            case measure => simp [intOf]; omega
          · rw [h1, h2, h3] at hft
            have HF := Lib.hid hft; clear hft
            go_wp2_with (at_builtin; refine wpList_append_tb rfl (.tmp 35) (.tmp 40) rfl w.heap.size q _ 1 1 u7 ((ps.take i).filter (inT a b)) [(k1, v1)] _ rfl rfl (by exact World.ownsRow.alloc HO.out _) (by exact tb_new _ (k1, v1)) (by omega) (by have := hb.size; simp; omega) ?_; intro v3 w3 hown3 hgr3)
            go_roundw
            case rel => exact ⟨i + 1, q + 1, by omega, by omega, by go_num, by rw [HF.out]; exact hown3, (hb.alloc hb.size _).grown hgr3 (by have := hb.size; simp; omega) (fun z hz => (HO.out.lt z hz).1)⟩
            case measure => simp [intOf]; omega
        · have he3 : (b.toList == []) = true := by simpa using h2
          rw [h1, h2] at hft
          have HF := Lib.hid hft; clear hft
          go_wp2_with (at_builtin; refine wpList_append_tb rfl (.tmp 35) (.tmp 40) rfl w.heap.size q _ 1 1 u7 ((ps.take i).filter (inT a b)) [(k1, v1)] _ rfl rfl (by exact World.ownsRow.alloc HO.out _) (by exact tb_new _ (k1, v1)) (by omega) (by have := hb.size; simp; omega) ?_; intro v3 w3 hown3 hgr3)
          go_roundw
          case rel => exact ⟨i + 1, q + 1, by omega, by omega, by go_num, by rw [HF.out]; exact hown3, (hb.alloc hb.size _).grown hgr3 (by have := hb.size; simp; omega) (fun z hz => (HO.out.lt z hz).1)⟩
          case measure => simp [intOf]; omega
      · rw [h1] at hft
        have HF := Lib.hid hft; clear hft
        go_wp2
        go_roundw
        case rel => exact ⟨i + 1, q, by omega, by omega, by go_num, by rw [HF.out]; simpa using HO.out, hb⟩
        case measure => simp [intOf]; omega
    · obtain rfl : i = n := by omega
      have htk : ps.take i = ps := List.take_of_length_le (by rw [HL.out]; omega)
      rw [htk] at HO
      go_wp2
      go_ret
      obtain ⟨A', c', rfl, ht'⟩ := own_tb HO.out
      exact ⟨A', _, c', rfl, ht', hb⟩

end Go.Proofs.Ytjgkiecepjlheaa
