/- The walk of Unword. -/
import Derived.Test.YtgplaeopcejmoaaGreatDoorWord
namespace Go.Proofs.YtgplaeopcejmoaaGreatDoor
open Go.RowKit

def unwordR (o : Option Bs) (e : Ending) : Prop := e = match o with
  | some l => .returned (.tuple #[.string (txt l), .int .i64 0])
  | none => .returned (.tuple #[.string ⟨#[]⟩, .int .i64 4])
theorem unwordR_some {o : Option Bs} {l : Bs} (h : o = some l) : unwordR o (.returned (.tuple #[.string (txt l), .int .i64 0])) := by rw [h]; rfl
theorem unwordR_none {o : Option Bs} (h : o = none) : unwordR o (.returned (.tuple #[.string ⟨#[]⟩, .int .i64 4])) := by rw [h]; rfl

theorem go_plain {c : UInt8} (r : Bs) (h : plainB c = true) : unwordGo (c :: r) = (unwordGo r).map ([c] ++ ·) := by
  rw [unwordGo.eq_def]; simp [h]
theorem go_hex {a b x : UInt8} (r : Bs) (h : unhex2 a b = some x) (hp : plainB x = false) : unwordGo (37 :: a :: b :: r) = (unwordGo r).map ([x] ++ ·) := by
  unfold unhex2 at h
  split at h
  · rename_i p q e1 e2
    injection h with h
    rw [unwordGo.eq_def]; simp [plainB_37, e1, e2, h, hp]
  · cases h
theorem go_hex_p {a b x : UInt8} (r : Bs) (h : unhex2 a b = some x) (hp : plainB x = true) : unwordGo (37 :: a :: b :: r) = none := by
  unfold unhex2 at h
  split at h
  · rename_i p q e1 e2
    injection h with h
    rw [unwordGo.eq_def]; simp [plainB_37, e1, e2, h, hp]
  · cases h
theorem go_hex_n {a b : UInt8} (r : Bs) (h : unhex2 a b = none) : unwordGo (37 :: a :: b :: r) = none := by
  unfold unhex2 at h
  split at h
  · cases h
  · rename_i e
    rw [unwordGo.eq_def]
    simp only [plainB_37, Bool.false_eq_true, if_false, if_true]
theorem go_short {r : Bs} (h : r.length < 2) : unwordGo (37 :: r) = none := by
  rw [unwordGo.eq_def]
  simp only [plainB_37, Bool.false_eq_true, if_false, if_true]
  match r, h with
  | [], _ => rfl
  | [_], _ => rfl
theorem go_bad {c : UInt8} (r : Bs) (h : plainB c = false) (h37 : c ≠ 37) : unwordGo (c :: r) = none := by
  rw [unwordGo.eq_def]; simp [h, h37]
theorem unwordL_end {s acc : Bs} (hs : s ≠ [37, 45]) (h : unwordGo s = some acc) (ha : acc ≠ []) : unwordL s = some acc := by
  unfold unwordL
  rw [if_neg hs, h]
  cases acc with
  | nil => exact absurd rfl ha
  | cons c l => rfl
theorem unwordL_nil {s : Bs} (hs : s ≠ [37, 45]) (h : unwordGo s = some []) : unwordL s = none := by
  unfold unwordL; rw [if_neg hs, h]
theorem unwordL_none {s : Bs} (hs : s ≠ [37, 45]) (h : unwordGo s = none) : unwordL s = none := by
  unfold unwordL; rw [if_neg hs, h]
theorem bs_extract (s : ByteArray) (i j : Nat) : bs (s.extract i j) = ((bs s).drop i).take (j - i) := by
  simp [bs]
theorem txt_eq {s : ByteArray} {l : Bs} (h : bs s = l) : s = ⟨l.toArray⟩ := by
  rw [← h]
theorem unhex_of (s : ByteArray) {a b : UInt8} (h : bs s = [a, b]) (w : World) :
    Calls Tryz.prog 44 #[.string s] w fun e w' => unhexR a b w.heap.size e w' ∧ Below w.heap.size w w' := by
  have h' := txt_eq h
  rw [h']
  exact unhex_two a b w

theorem plain37 (w : World) : Calls Tryz.prog 43 #[.int .u8 37] w fun e w' => e = .returned (.bool false) ∧ w = w' := plain_any 37 w
theorem plain_x {c : UInt8} {b : Bool} (h : plainB c = b) (w : World) : Calls Tryz.prog 43 #[.int .u8 c.toNat] w fun e w' => e = .returned (.bool b) ∧ w = w' := h ▸ plain_any c w
/-- what is over of a text that is read -/
def left (s acc : Bs) (k : Nat) : Prop := unwordGo s = (unwordGo (s.drop k)).map (acc ++ ·)
theorem left_start (s : Bs) : left s [] 0 := by
  unfold left; rw [List.drop_zero]; cases unwordGo s <;> rfl
theorem left_more {s acc d : Bs} {k m : Nat} (h : left s acc k) (hd : unwordGo (s.drop k) = (unwordGo (s.drop m)).map (d ++ ·)) : left s (acc ++ d) m := by
  unfold left at *
  rw [h, hd]
  cases unwordGo (s.drop m) <;> simp
theorem left_none {s acc : Bs} {k : Nat} (h : left s acc k) (hd : unwordGo (s.drop k) = none) : unwordGo s = none := by
  unfold left at h; rw [h, hd]; rfl
theorem left_end {s acc : Bs} {k : Nat} (h : left s acc k) (hd : s.length ≤ k) : unwordGo s = some acc := by
  unfold left at h; rw [h, List.drop_of_length_le hd]; simp [unwordGo]

set_option maxRecDepth 100000 in
set_option maxHeartbeats 1000000 in
theorem unword_any (s : ByteArray) (hs : s.size ≤ 1000000) (w : World) :
    Calls Tryz.prog 12 #[.string s] w fun e w' => unwordR (unwordL (bs s)) e ∧ Below w.heap.size w w' := by
  cases he : s.toList == [37, 45]
  · have hne : bs s ≠ [37, 45] := by rw [toList_bs] at he; simpa using he
    have HN := Lib.hid hne; clear hne
    go_enter Tryz.func12, Tryz.ntmps12
    go_wp2; go_step3; go_wp2; go_step3; go_wp2
    go_loopg [4, 5] s.size (fun g v i wr => ∃ (k : Nat) (acc : Bs), k ≤ s.size ∧ g = s.size - k ∧ acc.length ≤ k ∧ i = .int .i64 k ∧ OwnB wr w.heap.size v acc ∧ left (bs s) acc k ∧ Below w.heap.size w wr)
    case atStart => exact ⟨0, [], by omega, by omega, by simp, rfl, OwnB.nil _ _, left_start _, Below.refl _ _⟩
    case round =>
      obtain ⟨k, acc, hk, rfl, hal, rfl, hown, hleft, hb⟩ := hrel
      have HO := Lib.hid hown; clear hown
      have HL := Lib.hid hleft; clear hleft
      have hbs := hb.size
      by_cases hlt : k < s.size
      · have hc := bs_get hlt
        obtain ⟨c, hcs⟩ : ∃ c : UInt8, s[k] = c := ⟨_, rfl⟩
        rw [hcs] at hc
        have hci : ∀ h, s[k]'h = c := fun _ => hcs
        clear hcs
        have hdr : (bs s).drop k = c :: (bs s).drop (k + 1) := by
          obtain ⟨hl, h⟩ := List.getElem?_eq_some_iff.1 hc
          rw [List.drop_eq_getElem_cons hl, h]
        have HD := Lib.hid hdr; clear hdr hc
        cases hp : plainB c
        · by_cases h37 : c = 37
          · have h37i : ((c.toNat : Int) == 37) = true := by rw [h37]; rfl
            have HP := Lib.hid hp
            subst h37
            by_cases hlong : 2 < s.size - k
            · obtain ⟨a, b, hab⟩ : ∃ a b, (bs s).drop (k + 1) = a :: b :: (bs s).drop (k + 3) := by
                have l1 : k + 1 < (bs s).length := by rw [bs_length]; omega
                have l2 : k + 2 < (bs s).length := by rw [bs_length]; omega
                exact ⟨_, _, by rw [List.drop_eq_getElem_cons l1, List.drop_eq_getElem_cons l2]⟩
              have hx2 : bs (s.extract (k + 1) (k + 3)) = [a, b] := by rw [bs_extract, hab, show k + 3 - (k + 1) = 2 by omega]; rfl
              have HX2 := Lib.hid hx2; clear hx2
              have HAB := Lib.hid hab; clear hab
              cases hu : unhex2 a b with
              | none =>
                have hnone := left_none HL.out (by rw [HD.out, HAB.out]; exact go_hex_n _ hu)
                have HN2 := Lib.hid hnone; clear hnone
                go_wp2_with (first
                  | (go_at_call 43; refine (plain37 _).mono ?_; rintro e w' ⟨rfl, rfl⟩)
                  | (go_at_call 44; refine (unhex_of _ HX2.out _).mono ?_; rintro e w1 ⟨hr, hb1⟩; unfold unhexR at hr; rw [hu] at hr; subst hr))
                try rw [Exit.noGoto_ret]
                go_ret2
                exact ⟨unwordR_none (unwordL_none HN.out HN2.out), hb.trans (hb1.mono hbs)⟩
              | some x =>
                cases hpx : plainB x
                · have hmore := left_more (d := [x]) (m := k + 3) HL.out (by rw [HD.out, HAB.out]; exact go_hex _ hu hpx)
                  have HM := Lib.hid hmore; clear hmore
                  go_wp2_with (first
                    | (go_at_call 43; ((with_reducible refine (plain37 _).mono ?_); rintro e w' ⟨rfl, rfl⟩))
                    | (go_at_call 43; ((with_reducible refine (plain_x hpx _).mono ?_); rintro e w' ⟨rfl, rfl⟩))
                    | (go_at_call 44; refine (unhex_of _ HX2.out _).mono ?_; rintro e w1 ⟨hr, hb1⟩; unfold unhexR at hr; rw [hu] at hr; obtain ⟨v1, rfl, hown1⟩ := hr
                       obtain ⟨g1, cap1, rfl, hg1, hg1'⟩ := hown1.form (by simp)
                       have hcx : w1.cell? ⟨g1, 0, none⟩ = some (.int .u8 x.toNat) := World.ownsRow.cells hown1 (g := g1) rfl 0 _ rfl
                       have hO1 := HO.out.below hb1
                       have hb1' : Below w.heap.size w w1 := hb.trans (hb1.mono hbs))
                    | (at_builtin; refine wpList_append_b rfl (.tmp 62) (.tmp 66) rfl w.heap.size u4 acc ⟨w1.heap.size, 0, none⟩ 1 1 [x] rfl rfl (by exact World.ownsRow.alloc hO1 _) (by omega) (by have := hb1'.size; simp; omega) rfl (by omega) (by intro j u hu; exact news_lit w1 [x] j u hu) ?_; intro v3 w3 hown3 hgr3))
                  have hb3 : Below w.heap.size w w3 := ((hb1'.alloc hb1'.size _)).grown hgr3 (by have := hb1'.size; simp; omega) (fun z hz => (hO1.lt z hz).1)
                  go_roundg (s.size - (k + 3))
                  case rel => exact ⟨k + 3, acc ++ [x], by omega, rfl, by simp; omega, by go_num, hown3, HM.out, hb3⟩
                  case measure => omega
                · have hnone := left_none HL.out (by rw [HD.out, HAB.out]; exact go_hex_p _ hu hpx)
                  have HN2 := Lib.hid hnone; clear hnone
                  go_wp2_with (first
                    | (go_at_call 43; ((with_reducible refine (plain37 _).mono ?_); rintro e w' ⟨rfl, rfl⟩))
                    | (go_at_call 43; ((with_reducible refine (plain_x hpx _).mono ?_); rintro e w' ⟨rfl, rfl⟩))
                    | (go_at_call 44; refine (unhex_of _ HX2.out _).mono ?_; rintro e w1 ⟨hr, hb1⟩; unfold unhexR at hr; rw [hu] at hr; obtain ⟨v1, rfl, hown1⟩ := hr
                       obtain ⟨g1, cap1, rfl, hg1, hg1'⟩ := hown1.form (by simp)
                       have hcx : w1.cell? ⟨g1, 0, none⟩ = some (.int .u8 x.toNat) := World.ownsRow.cells hown1 (g := g1) rfl 0 _ rfl))
                  try rw [Exit.noGoto_ret]
                  go_ret2
                  exact ⟨unwordR_none (unwordL_none HN.out HN2.out), hb.trans (hb1.mono hbs)⟩
            · have hnone := left_none HL.out (by rw [HD.out]; exact go_short (by rw [List.length_drop, bs_length]; omega))
              have HN2 := Lib.hid hnone; clear hnone
              go_wp2_with (first
                | (go_at_call 43; refine (plain37 _).mono ?_; rintro e w' ⟨rfl, rfl⟩))
              try rw [Exit.noGoto_ret]
              go_ret2
              exact ⟨unwordR_none (unwordL_none HN.out HN2.out), hb⟩
          · have h37i : ((c.toNat : Int) == 37) = false := by
              have : c.toNat ≠ 37 := fun e => h37 (UInt8.toNat_inj.1 e)
              simp; omega
            have HP := Lib.hid hp
            have hnone := left_none HL.out (by rw [HD.out]; exact go_bad _ hp h37)
            have HN2 := Lib.hid hnone; clear hnone h37
            go_wp2_with (first
              | (go_at_call 43; refine (plain_any c _).mono ?_; rw [HP.out]; rintro e w' ⟨rfl, rfl⟩))
            try rw [Exit.noGoto_ret]
            go_ret2
            exact ⟨unwordR_none (unwordL_none HN.out HN2.out), hb⟩
        · have HP := Lib.hid hp
          have hmore := left_more (d := [c]) (m := k + 1) HL.out (by rw [HD.out]; exact go_plain _ hp)
          have HM := Lib.hid hmore; clear hmore
          go_wp2_with (first
            | (go_at_call 43; refine (plain_any c _).mono ?_; rw [HP.out]; rintro e w' ⟨rfl, rfl⟩)
            | (at_builtin; refine wpList_append_b rfl (.tmp 21) (.tmp 25) rfl w.heap.size u4 acc ⟨wr.heap.size, 0, none⟩ 1 1 [c] rfl rfl (by exact World.ownsRow.alloc HO.out _) (by omega) (by simp; omega) rfl (by omega) (by intro j u hu; exact news_lit wr [c] j u hu) ?_; intro v3 w3 hown3 hgr3))
          have hb3 : Below w.heap.size w w3 := ((hb.alloc hbs _)).grown hgr3 (by simp; omega) (fun z hz => (HO.out.lt z hz).1)
          go_roundg (s.size - (k + 1))
          case rel => exact ⟨k + 1, acc ++ [c], by omega, rfl, by simp; omega, by go_num, hown3, HM.out, hb3⟩
          case measure => omega
      · obtain rfl : k = s.size := by omega
        have hend := left_end HL.out (by rw [bs_length]; omega)
        have HE := Lib.hid hend; clear hend
        cases hacc : acc with
        | nil =>
          subst hacc
          obtain ⟨A, cp, rfl⟩ := HO.out.any
          go_wp2
          try rw [Exit.noGoto_ret]
          go_ret2
          exact ⟨unwordR_none (unwordL_nil HN.out HE.out), hb⟩
        | cons d l =>
          subst hacc
          obtain ⟨g, cap, rfl, hg1, hg2⟩ := HO.out.form (by simp)
          have hcv : (convert 77 9 (.slice (some ⟨g, 0, none⟩) (l.length + 1) cap)).run Tryz.prog wr = _ := conv_own HO.out
          go_wp2
          try rw [Exit.noGoto_ret]
          go_ret2
          exact ⟨unwordR_some (unwordL_end HN.out HE.out (by simp)), hb⟩
  · have he' : bs s = [37, 45] := by rw [toList_bs] at he; simpa using he
    go_enter Tryz.func12, Tryz.ntmps12
    go_wp2; go_step3; go_wp2
    try rw [Exit.noGoto_ret]
    go_ret2
    refine ⟨?_, Below.refl _ _⟩
    rw [he']; rfl
end Go.Proofs.YtgplaeopcejmoaaGreatDoor
