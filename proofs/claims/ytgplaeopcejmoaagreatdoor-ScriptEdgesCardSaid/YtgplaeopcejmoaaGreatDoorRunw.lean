/- The walks of the document's spelled letter, and its reading of two letters. The walk of the document's Unword. -/
import Derived.Test.YtgplaeopcejmoaaGreatDoorRefw
import Derived.Test.YtgplaeopcejmoaaGreatDoorIter
namespace Go.Proofs.YtgplaeopcejmoaaGreatDoor
open Go.RowKit

def spellV (c : UInt8) : Int := match unhexd c with
  | some x => x
  | none => -1
theorem spellV_some {c : UInt8} {k : Nat} (hk : k < 16) (h : hexd k = c) : spellV c = k := by
  unfold spellV; rw [← h, unhexd_hexd hk]
theorem spellV_none {c : UInt8} (h : ∀ j, j < 16 → hexd j ≠ c) : spellV c = -1 := by
  unfold spellV
  cases e : unhexd c with
  | none => rfl
  | some n => exact absurd (hexd_unhexd e) (h n (unhexd_lt e))
theorem u8_eq {a b : UInt8} (h : ((a.toNat : Int) == (b.toNat : Int)) = true) : a = b := by
  have h1 := eq_of_beq h
  exact UInt8.toNat_inj.1 (by omega)
theorem u8_ne {a b : UInt8} (h : ((a.toNat : Int) == (b.toNat : Int)) = false) : a ≠ b := by
  intro e; subst e; simp at h

set_option maxRecDepth 100000 in
theorem spelled_any (c : UInt8) (w : World) : Calls Tryz.prog 87 #[.int .u8 c.toNat] w fun e w' => e = .returned (.int .i64 (spellV c)) ∧ w = w' := by
  obtain ⟨L, hL⟩ : ∃ L : ByteArray, ⟨#[48, 49, 50, 51, 52, 53, 54, 55, 56, 57, 97, 98, 99, 100, 101, 102]⟩ = L := ⟨_, rfl⟩
  have hLs : L.size = 16 := by subst hL; rfl
  have hLk : ∀ k : Nat, k < 16 → ∀ h, L[k]'h = hexd k := by
    subst hL
    intro k hk h
    have : ∀ k : Fin 16, (#[48, 49, 50, 51, 52, 53, 54, 55, 56, 57, 97, 98, 99, 100, 101, 102] : Array UInt8)[k.val]? = some (hexd k.val) := by decide
    have h2 := this ⟨k, hk⟩
    obtain ⟨_, h3⟩ := Array.getElem?_eq_some_iff.1 h2
    exact h3
  have HL := Lib.hid hL; clear hL
  have HK := Lib.hid hLk; clear hLk
  go_enter Tryz.func87, Tryz.ntmps87
  go_wp2_with (go_at_call 103; refine (letters_any _).mono ?_; rintro e w1 ⟨rfl, rfl⟩; rw [HL.out])
  go_loopw [4] (fun i wr => ∃ k : Nat, k ≤ 16 ∧ i = .int .i64 k ∧ w = wr ∧ ∀ j, j < k → hexd j ≠ c) (fun i _ => 16 - (intOf i).toNat)
  case atStart => exact ⟨0, by omega, rfl, rfl, fun j hj => by omega⟩
  case round =>
    obtain ⟨k, hk, rfl, rfl, hno⟩ := hrel
    have HN := Lib.hid hno; clear hno
    by_cases hlt : k < 16
    · obtain ⟨d, hd⟩ : ∃ d, hexd k = d := ⟨_, rfl⟩
      have hci : ∀ h, L[k]'h = d := fun h => (HK.out k hlt h).trans hd
      have HD := Lib.hid hd; clear hd
      cases hdc : ((d.toNat : Int) == (c.toNat : Int))
      · go_wp2
        go_roundw
        case rel => exact ⟨k + 1, by omega, by go_num, by trivial, fun j hj => by
          by_cases e : j = k
          · subst e; rw [HD.out]; exact u8_ne hdc
          · exact HN.out j (by omega)⟩
        case measure => simp [intOf]; omega
      · have he := spellV_some hlt (HD.out.trans (u8_eq hdc))
        go_wp2
        go_ret
        refine ⟨?_, rfl⟩
        rw [he]; rfl
    · obtain rfl : k = 16 := by omega
      have he := spellV_none HN.out
      go_wp2
      go_ret
      refine ⟨?_, rfl⟩
      rw [he]; rfl
theorem spelled_s {c : UInt8} {x : Nat} (h : unhexd c = some x) (w : World) : Calls Tryz.prog 87 #[.int .u8 c.toNat] w fun e w' => e = .returned (.int .i64 (x : Int)) ∧ w = w' :=
  (spelled_any c w).mono fun _ _ ⟨he, hw⟩ => ⟨by rw [he]; unfold spellV; rw [h], hw⟩
theorem spelled_n {c : UInt8} (h : unhexd c = none) (w : World) : Calls Tryz.prog 87 #[.int .u8 c.toNat] w fun e w' => e = .returned (.int .i64 (-1)) ∧ w = w' :=
  (spelled_any c w).mono fun _ _ ⟨he, hw⟩ => ⟨by rw [he]; unfold spellV; rw [h], hw⟩

/-- what two letters spell, as the document's function hands it back -/
def refunR (a b : UInt8) (e : Ending) (w' : World) : Prop := match unhex2 a b with
  | some x => ∃ ad, e = .returned (.tuple #[.slice (some ad) 1 1, .bool true]) ∧ w'.cell? ad = some (.int .u8 x.toNat)
  | none => ∃ v, e = .returned (.tuple #[v, .bool false])
theorem refunR_none {a b : UInt8} {v : Value} {w' : World} (h : unhex2 a b = none) : refunR a b (.returned (.tuple #[v, .bool false])) w' := by
  unfold refunR; rw [h]; exact ⟨v, rfl⟩
theorem refunR_some {a b x : UInt8} {g : Nat} {w' : World} (h : unhex2 a b = some x) (ho : Blk w' g 5 [.int .u8 x.toNat]) : refunR a b (.returned (.tuple #[.slice (some ⟨g, 0, none⟩) 1 1, .bool true])) w' := by
  unfold refunR; rw [h]; exact ⟨_, rfl, ho.cell 0⟩
theorem blk_one {w : World} {g : Nat} {i j : Int} (h : Blk w g 5 [.int .u8 i]) (e : i = j) : Blk w g 5 [.int .u8 j] := e ▸ h

set_option maxRecDepth 100000 in
set_option maxHeartbeats 1000000 in
theorem refunhex_two (a b : UInt8) (w : World) :
    Calls Tryz.prog 45 #[.string ⟨#[a, b]⟩] w fun e w' => refunR a b e w' ∧ Below w.heap.size w w' := by
  obtain ⟨s, hs⟩ : ∃ s : ByteArray, ⟨#[a, b]⟩ = s := ⟨_, rfl⟩
  have hsz : s.size = 2 := by rw [← hs]; rfl
  have hs0 : ∀ h, s[0]'h = a := by subst hs; intro h; rfl
  have hs1 : ∀ h, s[1]'h = b := by subst hs; intro h; rfl
  rw [hs]; clear hs
  have hmk0 := run_make_row' (P := Tryz.prog) 77 5 (.int .u8 0) 1 Tryz.underlying77 infoU8 rfl .i64 .i64 1 (by omega) (by omega) w
  have hmc : madeCells #[Value.int .u8 0] 1 = #[.int .u8 0] := by simp [madeCells]; exact ⟨0, rfl, rfl⟩
  rw [hmc] at hmk0
  have hmk : (Instr.makeSlice 77 (.int .i64 1) (.int .i64 1)).run Tryz.prog w = .ok (.slice (some ⟨w.heap.size, 0, none⟩) 1 1) (w.alloc (.cells #[.int .u8 0] 5)) := hmk0
  clear hmk0
  go_enter Tryz.func45, Tryz.ntmps45
  go_wp2
  go_loopw [5] (fun i wr => Below w.heap.size w wr ∧ ((i = .int .i64 0 ∧ Blk wr w.heap.size 5 [.int .u8 0]) ∨ (∃ x : Nat, i = .int .i64 1 ∧ unhexd a = some x ∧ Blk wr w.heap.size 5 [.int .u8 x]) ∨ (∃ x y : Nat, i = .int .i64 2 ∧ unhexd a = some x ∧ unhexd b = some y ∧ Blk wr w.heap.size 5 [.int .u8 ((x * 16 + y : Nat) : Int)]))) (fun i _ => 2 - (intOf i).toNat)
  case atStart => exact ⟨(Below.refl _ _).alloc (Nat.le_refl _) _, .inl ⟨rfl, Blk.new _ _ _⟩⟩
  case round =>
    obtain ⟨hb, ⟨rfl, hg⟩ | ⟨x, rfl, hx, hg⟩ | ⟨x, y, rfl, hx, hy, hg⟩⟩ := hrel
    · have hc := hg.cell 0
      have hf := hg.frozen 0
      cases hx : unhexd a with
      | none =>
        go_wp2_with (go_at_call 87; refine (spelled_n hx _).mono ?_; rintro e w1 ⟨rfl, rfl⟩)
        go_ret2
        exact ⟨refunR_none (unhex2_l hx), hb⟩
      | some x =>
        have h16 := unhexd_lt hx
        go_wp2_with (go_at_call 87; refine (spelled_s hx _).mono ?_; rintro e w1 ⟨rfl, rfl⟩)
        go_roundw
        case rel => exact ⟨hb.setCell (by simp) _, .inr (.inl ⟨x, rfl, by first | rfl | exact hx, blk_one (hg.setCell 0 _ (by simp)) (by first | rfl | omega | (simp only [IntKind.wrap_u8]; omega))⟩)⟩
        case measure => simp [intOf]
    · have hc := hg.cell 0
      have hf := hg.frozen 0
      have hx16 := unhexd_lt hx
      cases hy : unhexd b with
      | none =>
        go_wp2_with (go_at_call 87; refine (spelled_n hy _).mono ?_; rintro e w1 ⟨rfl, rfl⟩)
        go_ret2
        exact ⟨refunR_none (unhex2_r hy), hb⟩
      | some y =>
        have h16 := unhexd_lt hy
        go_wp2_with (go_at_call 87; refine (spelled_s hy _).mono ?_; rintro e w1 ⟨rfl, rfl⟩)
        go_roundw
        case rel => exact ⟨hb.setCell (by simp) _, .inr (.inr ⟨x, y, rfl, by first | rfl | exact hx, by first | rfl | exact hy, blk_one (hg.setCell 0 _ (by simp)) (by first | rfl | omega | (simp only [IntKind.wrap_u8]; omega))⟩)⟩
        case measure => simp [intOf]
    · have h2 := unhex2_s hx hy
      have h1 := unhexd_lt hx
      have h3 := unhexd_lt hy
      have ht : (UInt8.ofNat (x * 16 + y)).toNat = x * 16 + y := by rw [UInt8.toNat_ofNat']; omega
      go_wp2
      go_ret2
      exact ⟨refunR_some h2 (by rw [ht]; exact hg), hb⟩
end Go.Proofs.YtgplaeopcejmoaaGreatDoor
namespace Go.Proofs.YtgplaeopcejmoaaGreatDoor
open Go.RowKit

/-- the bytes of a text of '%xx' and whatever else -/
def lenGo : Bs → Option Bs
  | [] => some []
  | c :: r =>
    if c = 37 then
      match r with
      | h :: l :: r' =>
        match unhex2 h l with
        | some x => (lenGo r').map (x :: ·)
        | none => none
      | _ => none
    else (lenGo r).map (c :: ·)
theorem len_plain {c : UInt8} (r : Bs) (h : c ≠ 37) : lenGo (c :: r) = (lenGo r).map ([c] ++ ·) := by
  rw [lenGo.eq_def]; simp [h]
theorem len_hex {a b x : UInt8} (r : Bs) (h : unhex2 a b = some x) : lenGo (37 :: a :: b :: r) = (lenGo r).map ([x] ++ ·) := by
  rw [lenGo.eq_def]; simp [h]
theorem len_hex_n {a b : UInt8} (r : Bs) (h : unhex2 a b = none) : lenGo (37 :: a :: b :: r) = none := by
  rw [lenGo.eq_def]; simp [h]
theorem len_short {r : Bs} (h : r.length < 2) : lenGo (37 :: r) = none := by
  rw [lenGo.eq_def]
  match r, h with
  | [], _ => rfl
  | [_], _ => rfl
theorem plainB_ne37 {c : UInt8} (h : plainB c = true) : c ≠ 37 := by
  intro e; subst e; rw [plainB_37] at h; cases h
theorem lenGo_wordB (c : UInt8) (r : Bs) : lenGo (wordB c ++ r) = (lenGo r).map (c :: ·) := by
  unfold wordB
  cases h : plainB c
  · have h1 := unhexd_hexd (n := c.toNat / 16) (by have := c.toNat_lt; omega)
    have h2 := unhexd_hexd (n := c.toNat % 16) (by omega)
    have h3 : unhex2 (hexd (c.toNat / 16)) (hexd (c.toNat % 16)) = some c := by
      rw [unhex2_s h1 h2, div_mod16]
    simp only [Bool.false_eq_true, if_false, List.cons_append, List.nil_append]
    exact len_hex r h3
  · simp only [if_true, List.cons_append, List.nil_append]
    exact len_plain r (plainB_ne37 h)
theorem lenGo_word : ∀ l : Bs, lenGo (l.flatMap wordB) = some l
  | [] => rfl
  | c :: l => by rw [List.flatMap_cons, lenGo_wordB, lenGo_word l]; rfl
theorem lenGo_of {s l : Bs} (hs : s ≠ [37, 45]) (h : unwordL s = some l) : lenGo s = some l := by
  have hw := wordL_unword h
  have : wordL l = l.flatMap wordB := by
    unfold wordL at hw ⊢
    split
    · rename_i e; rw [if_pos e] at hw; exact absurd hw.symm hs
    · rfl
  rw [← hw, this]; exact lenGo_word l
/-- what is over of a text that is read so -/
def leftL (s acc : Bs) (k : Nat) : Prop := lenGo s = (lenGo (s.drop k)).map (acc ++ ·)
theorem leftL_start (s : Bs) : leftL s [] 0 := by
  unfold leftL; rw [List.drop_zero]; cases lenGo s <;> rfl
theorem leftL_more {s acc d : Bs} {k m : Nat} (h : leftL s acc k) (hd : lenGo (s.drop k) = (lenGo (s.drop m)).map (d ++ ·)) : leftL s (acc ++ d) m := by
  unfold leftL at *
  rw [h, hd]
  cases lenGo (s.drop m) <;> simp
theorem leftL_none {s acc : Bs} {k : Nat} (hs : s ≠ [37, 45]) (h : leftL s acc k) (hd : lenGo (s.drop k) = none) : unwordL s = none := by
  unfold leftL at h
  rw [hd] at h
  cases e : unwordL s with
  | none => rfl
  | some l => rw [lenGo_of hs e] at h; cases h
theorem leftL_end {s acc : Bs} {k : Nat} (h : leftL s acc k) (hd : s.length ≤ k) : lenGo s = some acc := by
  unfold leftL at h; rw [h, List.drop_of_length_le hd]; simp [lenGo]

/-- what the document's Unword hands back -/
def refuwR (s : ByteArray) (e : Ending) : Prop := ∃ (o : ByteArray) (b : Bool), e = .returned (.tuple #[.string o, .bool b]) ∧ (b = true → unwordL (bs s) = some (bs o)) ∧ (b = false → unwordL (bs s) = none)
theorem refuwR_no {s o : ByteArray} (h : unwordL (bs s) = none) : refuwR s (.returned (.tuple #[.string o, .bool false])) := ⟨_, _, rfl, (fun e => by cases e), fun _ => h⟩
theorem refuwR_end {s : ByteArray} {acc : Bs} {b : Bool} (hs : bs s ≠ [37, 45]) (h : lenGo (bs s) = some acc) (hb : b = (wordL acc == bs s && decide (0 < (bs s).length))) : refuwR s (.returned (.tuple #[.string (txt acc), .bool b])) := by
  refine ⟨_, _, rfl, fun e => ?_, fun e => ?_⟩
  · rw [e] at hb
    have := hb.symm
    simp only [Bool.and_eq_true, beq_iff_eq] at this
    rw [← this.1, unwordL_word]; rfl
  · rw [e] at hb
    cases hu : unwordL (bs s) with
    | none => rfl
    | some l =>
      exfalso
      have h1 := lenGo_of hs hu
      rw [h] at h1
      cases h1
      have h2 := wordL_unword hu
      have h3 : 0 < (bs s).length := by rw [← h2]; exact List.length_pos_iff.2 (wordL_ne _)
      rw [h2] at hb
      have h4 : (bs s == bs s) = true := by simp
      rw [h4, decide_eq_true h3] at hb
      cases hb
theorem refunhex_of (s : ByteArray) {a b : UInt8} (h : bs s = [a, b]) (w : World) :
    Calls Tryz.prog 45 #[.string s] w fun e w' => refunR a b e w' ∧ Below w.heap.size w w' := by
  have h' := txt_eq h
  rw [h']
  exact refunhex_two a b w
theorem refun_n {s : ByteArray} {a b : UInt8} (h : bs s = [a, b]) (hu : unhex2 a b = none) (w : World) :
    Calls Tryz.prog 45 #[.string s] w fun e w' => (∃ v, e = .returned (.tuple #[v, .bool false])) ∧ Below w.heap.size w w' :=
  (refunhex_of s h w).mono fun _ _ ⟨hr, hb⟩ => ⟨by unfold refunR at hr; rw [hu] at hr; exact hr, hb⟩
theorem refun_s {s : ByteArray} {a b x : UInt8} (h : bs s = [a, b]) (hu : unhex2 a b = some x) (w : World) :
    Calls Tryz.prog 45 #[.string s] w fun e w' => (∃ ad, e = .returned (.tuple #[.slice (some ad) 1 1, .bool true]) ∧ w'.cell? ad = some (.int .u8 x.toNat)) ∧ Below w.heap.size w w' :=
  (refunhex_of s h w).mono fun _ _ ⟨hr, hb⟩ => ⟨by unfold refunR at hr; rw [hu] at hr; exact hr, hb⟩

set_option maxRecDepth 100000 in
set_option maxHeartbeats 4000000 in
theorem refunword_any (s : ByteArray) (hs : s.size ≤ 100000) (w : World) :
    Calls Tryz.prog 13 #[.string s] w fun e w' => refuwR s e ∧ Below w.heap.size w w' := by
  cases he : s.toList == [37, 45]
  · have hne : bs s ≠ [37, 45] := by rw [toList_bs] at he; simpa using he
    have HN := Lib.hid hne; clear hne
    go_enter Tryz.func13, Tryz.ntmps13
    go_wp2
    go_loopw [4, 5] (fun v i wr => ∃ (k : Nat) (acc : Bs), k ≤ s.size ∧ acc.length ≤ k ∧ i = .int .i64 k ∧ OwnB wr w.heap.size v acc ∧ leftL (bs s) acc k ∧ Below w.heap.size w wr) (fun _ i _ => s.size - (intOf i).toNat)
    case atStart => exact ⟨0, [], by omega, by simp, rfl, OwnB.nil _ _, leftL_start _, Below.refl _ _⟩
    case round =>
      obtain ⟨k, acc, hk, hal, rfl, hown, hleft, hb⟩ := hrel
      have HO := Lib.hid hown; clear hown
      have HL := Lib.hid hleft; clear hleft
      have hbs := hb.size
      by_cases hlt : k < s.size
      · have hc := bs_get hlt
        obtain ⟨c, hcs⟩ : ∃ c : UInt8, s[k] = c := ⟨_, rfl⟩
        rw [hcs] at hc
        have hci : ∀ h, s[k]'h = c := fun _ => hcs
        clear hcs
        have hdr : (bs s).drop k = c :: (bs s).drop (k + 1) := by
          obtain ⟨hl, h⟩ := List.getElem?_eq_some_iff.1 hc
          rw [List.drop_eq_getElem_cons hl, h]
        have HD := Lib.hid hdr; clear hdr hc
        by_cases h37 : c = 37
        · subst h37
          by_cases hlong : k + 2 < s.size
          · obtain ⟨a, b, hab⟩ : ∃ a b, (bs s).drop (k + 1) = a :: b :: (bs s).drop (k + 3) := by
              have l1 : k + 1 < (bs s).length := by rw [bs_length]; omega
              have l2 : k + 2 < (bs s).length := by rw [bs_length]; omega
              exact ⟨_, _, by rw [List.drop_eq_getElem_cons l1, List.drop_eq_getElem_cons l2]⟩
            have hx2 : bs (s.extract (k + 1) (k + 3)) = [a, b] := by rw [bs_extract, hab, show k + 3 - (k + 1) = 2 by omega]; rfl
            have HX2 := Lib.hid hx2; clear hx2
            have HAB := Lib.hid hab; clear hab
            cases hu : unhex2 a b with
            | none =>
              have hnone := leftL_none HN.out HL.out (by rw [HD.out, HAB.out]; exact len_hex_n _ hu)
              have HN2 := Lib.hid hnone; clear hnone
              go_wp2_with (go_at_call 45; refine (refun_n HX2.out hu _).mono ?_; rintro e w2 ⟨⟨v, rfl⟩, hb2⟩)
              go_ret2
              exact ⟨refuwR_no HN2.out, hb.trans (hb2.mono hbs)⟩
            | some x =>
              have hmore := leftL_more (d := [x]) (m := k + 3) HL.out (by rw [HD.out, HAB.out]; exact len_hex _ hu)
              have HM := Lib.hid hmore; clear hmore
              have HU := Lib.hid hu; clear hu
              go_wp2_with (first
                | (go_at_call 45; refine (refun_s HX2.out HU.out _).mono ?_; rintro e w2 ⟨⟨ad, rfl, hcd⟩, hb2⟩; have hb3 := hb.trans (hb2.mono hbs); have hb3s := hb3.size; have hown2 := OwnB.below HO.out hb2)
                | (at_builtin; refine wpList_append_b rfl (.tmp 43) (.tmp 47) rfl w.heap.size u4 acc ⟨w2.heap.size, 0, none⟩ 1 1 [x] rfl rfl (by exact World.ownsRow.alloc hown2 _) (by omega) (by simp; omega) rfl (by omega) (by intro j u hu; exact news_lit w2 [x] j u hu) ?_; intro v3 w3 hown3 hgr3))
              have hb4 : Below w.heap.size w w3 := ((hb3.alloc hb3s _)).grown hgr3 (by simp; omega) (fun z hz => (hown2.lt z hz).1)
              refine ⟨⟨k + 3, acc ++ [x], by omega, by simp; omega, by go_num, hown3, HM.out, hb4⟩, ?_⟩
              simp [intOf]; omega
          · have hnone := leftL_none HN.out HL.out (by rw [HD.out]; exact len_short (by rw [List.length_drop, bs_length]; omega))
            have HN2 := Lib.hid hnone; clear hnone
            go_wp2
            go_ret2
            exact ⟨refuwR_no HN2.out, hb⟩
        · have hmore := leftL_more (d := [c]) (m := k + 1) HL.out (by rw [HD.out]; exact len_plain _ h37)
          have HM := Lib.hid hmore; clear hmore
          have hc37 : ((c.toNat : Int) != 37) = true := by
            simp only [bne_iff_ne, ne_eq]
            intro e
            exact h37 (UInt8.toNat_inj.1 (by have : (37 : UInt8).toNat = 37 := rfl; omega))
          clear h37
          go_wp2_with (at_builtin; refine wpList_append_b rfl (.tmp 20) (.tmp 24) rfl w.heap.size u4 acc ⟨wr.heap.size, 0, none⟩ 1 1 [c] rfl rfl (by exact World.ownsRow.alloc HO.out _) (by omega) (by simp; omega) rfl (by omega) (by intro j u hu; exact news_lit wr [c] j u hu) ?_; intro v3 w3 hown3 hgr3)
          have hb3 : Below w.heap.size w w3 := ((hb.alloc hbs _)).grown hgr3 (by simp; omega) (fun z hz => (HO.out.lt z hz).1)
          go_roundw
          case rel => exact ⟨k + 1, acc ++ [c], by omega, by simp; omega, by go_num, hown3, HM.out, hb3⟩
          case measure => simp [intOf]; omega
      · obtain rfl : k = s.size := by omega
        have hend := leftL_end HL.out (by rw [bs_length]; exact Nat.le_refl _)
        have HE := Lib.hid hend; clear hend
        have hcv := conv_own HO.out
        have hcvd : (convert 77 9 u4).run Tryz.prog wr.drew = .ok (.string ⟨acc.toArray⟩) wr.drew := conv_own (w := wr.drew) HO.out
        obtain ⟨t, ht⟩ : ∃ t, txt (wordL acc) = t := ⟨_, rfl⟩
        have hcall : ∀ W, Calls Tryz.prog 46 #[.string ⟨acc.toArray⟩] W fun e w' => ∃ v, e = .returned v ∧ (v = .string t ∧ Below W.heap.size W w') := fun W =>
          (refword_any ⟨acc.toArray⟩ (by show acc.toArray.size ≤ _; rw [List.size_toArray]; omega) W).mono fun _ _ ⟨h, hb⟩ => ⟨_, h, by rw [← ht], hb⟩
        have hqe : (wordL acc == bs s) = (t.toList == s.toList) := by rw [← ht, toList_bs, toList_bs, bs_txt]
        have HQE := Lib.hid hqe; clear hqe
        have HT := Lib.hid ht; clear ht
        cases hq : (t.toList == s.toList)
        · go_wp2
          first
          | go_region_with (go_at_call 46; refine (hcall _).mono ?_; rintro e2 w2 ⟨_, rfl, rfl, hb2⟩; replace hb2 := below_undrew hb2; have hcv2 := conv_own (OwnB.below HO.out hb2))
          | fail
          all_goals
            go_simp
            go_wp2
            go_ret2
            exact ⟨refuwR_end HN.out HE.out (by rw [HQE.out, hq]; rfl), hb.trans (hb2.mono hbs)⟩
        · have hls : 0 < s.size := by
            have h1 : (wordL acc == bs s) = true := HQE.out.trans hq
            have h2 : wordL acc = bs s := by simpa using h1
            rw [← bs_length, ← h2]
            exact List.length_pos_iff.2 (wordL_ne _)
          have hlp : (0 : Int) < (s.size : Int) := by omega
          have hbl : decide (0 < (bs s).length) = true := by rw [bs_length]; exact decide_eq_true hls
          have HBL := Lib.hid hbl; clear hbl
          go_wp2
          first
          | go_region_with (go_at_call 46; refine (hcall _).mono ?_; rintro e2 w2 ⟨_, rfl, rfl, hb2⟩; replace hb2 := below_undrew hb2; have hcv2 := conv_own (OwnB.below HO.out hb2))
          | fail
          all_goals
            go_simp
            go_wp2
            go_ret2
            exact ⟨refuwR_end HN.out HE.out (by rw [HQE.out, hq, HBL.out]; rfl), hb.trans (hb2.mono hbs)⟩
  · have hee : bs s = [37, 45] := by rw [toList_bs] at he; simpa using he
    go_enter Tryz.func13, Tryz.ntmps13
    go_wp2
    go_ret2
    exact ⟨⟨_, _, rfl, fun _ => by rw [hee]; rfl, fun e => by cases e⟩, Below.refl _ _⟩
end Go.Proofs.YtgplaeopcejmoaaGreatDoor
