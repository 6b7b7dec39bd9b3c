/- The walk of the document's Unword. -/
import Derived.Test.YtgplaeopcejmoaaGreatDoorRhex
namespace Go.Proofs.YtgplaeopcejmoaaGreatDoor
open Go.RowKit

/-- the bytes of a text of '%xx' and whatever else -/
def lenGo : Bs → Option Bs
  | [] => some []
  | c :: r =>
    if c = 37 then
      match r with
      | h :: l :: r' =>
        match unhex2 h l with
        | some x => (lenGo r').map (x :: ·)
        | none => none
      | _ => none
    else (lenGo r).map (c :: ·)
theorem len_plain {c : UInt8} (r : Bs) (h : c ≠ 37) : lenGo (c :: r) = (lenGo r).map ([c] ++ ·) := by
  rw [lenGo.eq_def]; simp [h]
theorem len_hex {a b x : UInt8} (r : Bs) (h : unhex2 a b = some x) : lenGo (37 :: a :: b :: r) = (lenGo r).map ([x] ++ ·) := by
  rw [lenGo.eq_def]; simp [h]
theorem len_hex_n {a b : UInt8} (r : Bs) (h : unhex2 a b = none) : lenGo (37 :: a :: b :: r) = none := by
  rw [lenGo.eq_def]; simp [h]
theorem len_short {r : Bs} (h : r.length < 2) : lenGo (37 :: r) = none := by
  rw [lenGo.eq_def]
  match r, h with
  | [], _ => rfl
  | [_], _ => rfl
theorem plainB_ne37 {c : UInt8} (h : plainB c = true) : c ≠ 37 := by
  intro e; subst e; rw [plainB_37] at h; cases h
theorem lenGo_wordB (c : UInt8) (r : Bs) : lenGo (wordB c ++ r) = (lenGo r).map (c :: ·) := by
  unfold wordB
  cases h : plainB c
  · have h1 := unhexd_hexd (n := c.toNat / 16) (by have := c.toNat_lt; omega)
    have h2 := unhexd_hexd (n := c.toNat % 16) (by omega)
    have h3 : unhex2 (hexd (c.toNat / 16)) (hexd (c.toNat % 16)) = some c := by
      rw [unhex2_s h1 h2, div_mod16]
    simp only [Bool.false_eq_true, if_false, List.cons_append, List.nil_append]
    exact len_hex r h3
  · simp only [if_true, List.cons_append, List.nil_append]
    exact len_plain r (plainB_ne37 h)
theorem lenGo_word : ∀ l : Bs, lenGo (l.flatMap wordB) = some l
  | [] => rfl
  | c :: l => by rw [List.flatMap_cons, lenGo_wordB, lenGo_word l]; rfl
theorem lenGo_of {s l : Bs} (hs : s ≠ [37, 45]) (h : unwordL s = some l) : lenGo s = some l := by
  have hw := wordL_unword h
  have : wordL l = l.flatMap wordB := by
    unfold wordL at hw ⊢
    split
    · rename_i e; rw [if_pos e] at hw; exact absurd hw.symm hs
    · rfl
  rw [← hw, this]; exact lenGo_word l
/-- what is over of a text that is read so -/
def leftL (s acc : Bs) (k : Nat) : Prop := lenGo s = (lenGo (s.drop k)).map (acc ++ ·)
theorem leftL_start (s : Bs) : leftL s [] 0 := by
  unfold leftL; rw [List.drop_zero]; cases lenGo s <;> rfl
theorem leftL_more {s acc d : Bs} {k m : Nat} (h : leftL s acc k) (hd : lenGo (s.drop k) = (lenGo (s.drop m)).map (d ++ ·)) : leftL s (acc ++ d) m := by
  unfold leftL at *
  rw [h, hd]
  cases lenGo (s.drop m) <;> simp
theorem leftL_none {s acc : Bs} {k : Nat} (hs : s ≠ [37, 45]) (h : leftL s acc k) (hd : lenGo (s.drop k) = none) : unwordL s = none := by
  unfold leftL at h
  rw [hd] at h
  cases e : unwordL s with
  | none => rfl
  | some l => rw [lenGo_of hs e] at h; cases h
theorem leftL_end {s acc : Bs} {k : Nat} (h : leftL s acc k) (hd : s.length ≤ k) : lenGo s = some acc := by
  unfold leftL at h; rw [h, List.drop_of_length_le hd]; simp [lenGo]

/-- what the document's Unword hands back -/
def refuwR (s : ByteArray) (e : Ending) : Prop := ∃ (o : ByteArray) (b : Bool), e = .returned (.tuple #[.string o, .bool b]) ∧ (b = true → unwordL (bs s) = some (bs o)) ∧ (b = false → unwordL (bs s) = none)
theorem refuwR_no {s o : ByteArray} (h : unwordL (bs s) = none) : refuwR s (.returned (.tuple #[.string o, .bool false])) := ⟨_, _, rfl, (fun e => by cases e), fun _ => h⟩
theorem refuwR_end {s : ByteArray} {acc : Bs} {b : Bool} (hs : bs s ≠ [37, 45]) (h : lenGo (bs s) = some acc) (hb : b = (wordL acc == bs s && decide (0 < (bs s).length))) : refuwR s (.returned (.tuple #[.string (txt acc), .bool b])) := by
  refine ⟨_, _, rfl, fun e => ?_, fun e => ?_⟩
  · rw [e] at hb
    have := hb.symm
    simp only [Bool.and_eq_true, beq_iff_eq] at this
    rw [← this.1, unwordL_word]; rfl
  · rw [e] at hb
    cases hu : unwordL (bs s) with
    | none => rfl
    | some l =>
      exfalso
      have h1 := lenGo_of hs hu
      rw [h] at h1
      cases h1
      have h2 := wordL_unword hu
      have h3 : 0 < (bs s).length := by rw [← h2]; exact List.length_pos_iff.2 (wordL_ne _)
      rw [h2] at hb
      have h4 : (bs s == bs s) = true := by simp
      rw [h4, decide_eq_true h3] at hb
      cases hb
theorem refunhex_of (s : ByteArray) {a b : UInt8} (h : bs s = [a, b]) (w : World) :
    Calls Tryz.prog 45 #[.string s] w fun e w' => refunR a b e w' ∧ Below w.heap.size w w' := by
  have h' := txt_eq h
  rw [h']
  exact refunhex_two a b w
theorem refun_n {s : ByteArray} {a b : UInt8} (h : bs s = [a, b]) (hu : unhex2 a b = none) (w : World) :
    Calls Tryz.prog 45 #[.string s] w fun e w' => (∃ v, e = .returned (.tuple #[v, .bool false])) ∧ Below w.heap.size w w' :=
  (refunhex_of s h w).mono fun _ _ ⟨hr, hb⟩ => ⟨by unfold refunR at hr; rw [hu] at hr; exact hr, hb⟩
theorem refun_s {s : ByteArray} {a b x : UInt8} (h : bs s = [a, b]) (hu : unhex2 a b = some x) (w : World) :
    Calls Tryz.prog 45 #[.string s] w fun e w' => (∃ ad, e = .returned (.tuple #[.slice (some ad) 1 1, .bool true]) ∧ w'.cell? ad = some (.int .u8 x.toNat)) ∧ Below w.heap.size w w' :=
  (refunhex_of s h w).mono fun _ _ ⟨hr, hb⟩ => ⟨by unfold refunR at hr; rw [hu] at hr; exact hr, hb⟩

set_option maxRecDepth 100000 in
set_option maxHeartbeats 4000000 in
theorem refunword_any (s : ByteArray) (hs : s.size ≤ 100000) (w : World) :
    Calls Tryz.prog 13 #[.string s] w fun e w' => refuwR s e ∧ Below w.heap.size w w' := by
  cases he : s.toList == [37, 45]
  · have hne : bs s ≠ [37, 45] := by rw [toList_bs] at he; simpa using he
    have HN := Lib.hid hne; clear hne
    go_enter Tryz.func13, Tryz.ntmps13
    go_wp2
    go_loopw [4, 5] (fun v i wr => ∃ (k : Nat) (acc : Bs), k ≤ s.size ∧ acc.length ≤ k ∧ i = .int .i64 k ∧ OwnB wr w.heap.size v acc ∧ leftL (bs s) acc k ∧ Below w.heap.size w wr) (fun _ i _ => s.size - (intOf i).toNat)
    case atStart => exact ⟨0, [], by omega, by simp, rfl, OwnB.nil _ _, leftL_start _, Below.refl _ _⟩
    case round =>
      obtain ⟨k, acc, hk, hal, rfl, hown, hleft, hb⟩ := hrel
      have HO := Lib.hid hown; clear hown
      have HL := Lib.hid hleft; clear hleft
      have hbs := hb.size
      by_cases hlt : k < s.size
      · have hc := bs_get hlt
        obtain ⟨c, hcs⟩ : ∃ c : UInt8, s[k] = c := ⟨_, rfl⟩
        rw [hcs] at hc
        have hci : ∀ h, s[k]'h = c := fun _ => hcs
        clear hcs
        have hdr : (bs s).drop k = c :: (bs s).drop (k + 1) := by
          obtain ⟨hl, h⟩ := List.getElem?_eq_some_iff.1 hc
          rw [List.drop_eq_getElem_cons hl, h]
        have HD := Lib.hid hdr; clear hdr hc
        by_cases h37 : c = 37
        · subst h37
          by_cases hlong : k + 2 < s.size
          · obtain ⟨a, b, hab⟩ : ∃ a b, (bs s).drop (k + 1) = a :: b :: (bs s).drop (k + 3) := by
              have l1 : k + 1 < (bs s).length := by rw [bs_length]; omega
              have l2 : k + 2 < (bs s).length := by rw [bs_length]; omega
              exact ⟨_, _, by rw [List.drop_eq_getElem_cons l1, List.drop_eq_getElem_cons l2]⟩
            have hx2 : bs (s.extract (k + 1) (k + 3)) = [a, b] := by rw [bs_extract, hab, show k + 3 - (k + 1) = 2 by omega]; rfl
            have HX2 := Lib.hid hx2; clear hx2
            have HAB := Lib.hid hab; clear hab
            cases hu : unhex2 a b with
            | none =>
              have hnone := leftL_none HN.out HL.out (by rw [HD.out, HAB.out]; exact len_hex_n _ hu)
              have HN2 := Lib.hid hnone; clear hnone
              go_wp2_with (go_at_call 45; refine (refun_n HX2.out hu _).mono ?_; rintro e w2 ⟨⟨v, rfl⟩, hb2⟩)
              go_ret2
              exact ⟨refuwR_no HN2.out, hb.trans (hb2.mono hbs)⟩
            | some x =>
              have hmore := leftL_more (d := [x]) (m := k + 3) HL.out (by rw [HD.out, HAB.out]; exact len_hex _ hu)
              have HM := Lib.hid hmore; clear hmore
              have HU := Lib.hid hu; clear hu
              go_wp2_with (first
                | (go_at_call 45; refine (refun_s HX2.out HU.out _).mono ?_; rintro e w2 ⟨⟨ad, rfl, hcd⟩, hb2⟩; have hb3 := hb.trans (hb2.mono hbs); have hb3s := hb3.size; have hown2 := OwnB.below HO.out hb2)
                | (at_builtin; refine wpList_append_b rfl (.tmp 43) (.tmp 47) rfl w.heap.size u4 acc ⟨w2.heap.size, 0, none⟩ 1 1 [x] rfl rfl (by exact World.ownsRow.alloc hown2 _) (by omega) (by simp; omega) rfl (by omega) (by intro j u hu; exact news_lit w2 [x] j u hu) ?_; intro v3 w3 hown3 hgr3))
              have hb4 : Below w.heap.size w w3 := ((hb3.alloc hb3s _)).grown hgr3 (by simp; omega) (fun z hz => (hown2.lt z hz).1)
              refine ⟨⟨k + 3, acc ++ [x], by omega, by simp; omega, by go_num, hown3, HM.out, hb4⟩, ?_⟩
              simp [intOf]; omega
          · have hnone := leftL_none HN.out HL.out (by rw [HD.out]; exact len_short (by rw [List.length_drop, bs_length]; omega))
            have HN2 := Lib.hid hnone; clear hnone
            go_wp2
            go_ret2
            exact ⟨refuwR_no HN2.out, hb⟩
        · have hmore := leftL_more (d := [c]) (m := k + 1) HL.out (by rw [HD.out]; exact len_plain _ h37)
          have HM := Lib.hid hmore; clear hmore
          have hc37 : ((c.toNat : Int) != 37) = true := by
            simp only [bne_iff_ne, ne_eq]
            intro e
            exact h37 (UInt8.toNat_inj.1 (by have : (37 : UInt8).toNat = 37 := rfl; omega))
          clear h37
          go_wp2_with (at_builtin; refine wpList_append_b rfl (.tmp 20) (.tmp 24) rfl w.heap.size u4 acc ⟨wr.heap.size, 0, none⟩ 1 1 [c] rfl rfl (by exact World.ownsRow.alloc HO.out _) (by omega) (by simp; omega) rfl (by omega) (by intro j u hu; exact news_lit wr [c] j u hu) ?_; intro v3 w3 hown3 hgr3)
          have hb3 : Below w.heap.size w w3 := ((hb.alloc hbs _)).grown hgr3 (by simp; omega) (fun z hz => (HO.out.lt z hz).1)
          go_roundw
          case rel => exact ⟨k + 1, acc ++ [c], by omega, by simp; omega, by go_num, hown3, HM.out, hb3⟩
          case measure => simp [intOf]; omega
      · obtain rfl : k = s.size := by omega
        have hend := leftL_end HL.out (by rw [bs_length]; exact Nat.le_refl _)
        have HE := Lib.hid hend; clear hend
        have hcv := conv_own HO.out
        have hcvd : (convert 77 9 u4).run Tryz.prog wr.drew = .ok (.string ⟨acc.toArray⟩) wr.drew := conv_own (w := wr.drew) HO.out
        obtain ⟨t, ht⟩ : ∃ t, txt (wordL acc) = t := ⟨_, rfl⟩
        have hcall : ∀ W, Calls Tryz.prog 46 #[.string ⟨acc.toArray⟩] W fun e w' => ∃ v, e = .returned v ∧ (v = .string t ∧ Below W.heap.size W w') := fun W =>
          (refword_any ⟨acc.toArray⟩ (by show acc.toArray.size ≤ _; rw [List.size_toArray]; omega) W).mono fun _ _ ⟨h, hb⟩ => ⟨_, h, by rw [← ht], hb⟩
        have hqe : (wordL acc == bs s) = (t.toList == s.toList) := by rw [← ht, toList_bs, toList_bs, bs_txt]
        have HQE := Lib.hid hqe; clear hqe
        have HT := Lib.hid ht; clear ht
        cases hq : (t.toList == s.toList)
        · go_wp2
          first
          | go_region_with (go_at_call 46; refine (hcall _).mono ?_; rintro e2 w2 ⟨_, rfl, rfl, hb2⟩; replace hb2 := below_undrew hb2; have hcv2 := conv_own (OwnB.below HO.out hb2))
          | fail
          all_goals
            go_simp
            go_wp2
            go_ret2
            exact ⟨refuwR_end HN.out HE.out (by rw [HQE.out, hq]; rfl), hb.trans (hb2.mono hbs)⟩
        · have hls : 0 < s.size := by
            have h1 : (wordL acc == bs s) = true := HQE.out.trans hq
            have h2 : wordL acc = bs s := by simpa using h1
            rw [← bs_length, ← h2]
            exact List.length_pos_iff.2 (wordL_ne _)
          have hlp : (0 : Int) < (s.size : Int) := by omega
          have hbl : decide (0 < (bs s).length) = true := by rw [bs_length]; exact decide_eq_true hls
          have HBL := Lib.hid hbl; clear hbl
          go_wp2
          first
          | go_region_with (go_at_call 46; refine (hcall _).mono ?_; rintro e2 w2 ⟨_, rfl, rfl, hb2⟩; replace hb2 := below_undrew hb2; have hcv2 := conv_own (OwnB.below HO.out hb2))
          | fail
          all_goals
            go_simp
            go_wp2
            go_ret2
            exact ⟨refuwR_end HN.out HE.out (by rw [HQE.out, hq, HBL.out]; rfl), hb.trans (hb2.mono hbs)⟩
  · have hee : bs s = [37, 45] := by rw [toList_bs] at he; simpa using he
    go_enter Tryz.func13, Tryz.ntmps13
    go_wp2
    go_ret2
    exact ⟨⟨_, _, rfl, fun _ => by rw [hee]; rfl, fun e => by cases e⟩, Below.refl _ _⟩
end Go.Proofs.YtgplaeopcejmoaaGreatDoor
