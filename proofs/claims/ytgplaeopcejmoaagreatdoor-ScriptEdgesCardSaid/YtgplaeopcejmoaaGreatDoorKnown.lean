/- Closed facts on the plain functions. The chapter's rows: known. -/
import Derived.Test.YtgplaeopcejmoaaGreatDoorTold
import Derived.Test.YtgplaeopcejmoaaGreatDoorActof
namespace Go.Proofs.YtgplaeopcejmoaaGreatDoor
open Go.RowKit Go.Shelf

theorem dec_3 : Lib.decDigits 3 = [51] := by rw [Lib.decDigits]; rfl
theorem dec_0 : Lib.decDigits 0 = [48] := by rw [Lib.decDigits]; rfl
theorem dec_1 : Lib.decDigits 1 = [49] := by rw [Lib.decDigits]; rfl
theorem dec_2 : Lib.decDigits 2 = [50] := by rw [Lib.decDigits]; rfl
theorem dec_9 : Lib.decDigits 9 = [57] := by rw [Lib.decDigits]; rfl
theorem dec_7 : Lib.decDigits 7 = [55] := by rw [Lib.decDigits]; rfl
theorem dec_77 : Lib.decDigits 77 = [55, 55] := by
  rw [Lib.decDigits, dif_neg (by decide), show 77 / 10 = 7 from rfl, dec_7]; rfl
theorem ito_0 : Lib.itoa 0 = [48] := by unfold Lib.itoa; rw [if_neg (by decide)]; exact dec_0
theorem ito_1 : Lib.itoa 1 = [49] := by unfold Lib.itoa; rw [if_neg (by decide)]; exact dec_1
theorem ito_2 : Lib.itoa 2 = [50] := by unfold Lib.itoa; rw [if_neg (by decide)]; exact dec_2
theorem ito_9 : Lib.itoa 9 = [57] := by unfold Lib.itoa; rw [if_neg (by decide)]; exact dec_9

theorem f_un1 : unwordL (bs ⟨#[37]⟩) = none := by decide
theorem f_un2 : unwordL (bs ⟨#[37, 52, 49]⟩) = none := by decide
theorem f_w1 : txt (wordL (bs ⟨#[97, 32, 98]⟩)) = ⟨#[97, 37, 50, 48, 98]⟩ := by rfl
theorem f_w2 : txt (wordL (bs ⟨#[]⟩)) = ⟨#[37, 45]⟩ := by rfl
def kOp : Opr := ⟨4, 3, ⟨#[97]⟩, ⟨#[]⟩, ⟨#[120, 32, 121]⟩, 0, 0⟩
theorem f_may : mayOp kOp = true := by decide +kernel
theorem f_op : opText kOp = ⟨#[112, 117, 116, 32, 51, 32, 97, 32, 120, 37, 50, 48, 121]⟩ := by
  have hg : getI namedL 4 = some 21 := rfl
  unfold opText opWords kOp
  simp only [hg, Option.getD_some, addF, h21_1, h21_2, h21_4, h21_8, h21_16, h21_32]
  unfold dec
  rw [dec_3]
  rfl
def kAr : Ar := ⟨7, 2, 0, 0, opZero, [1, 0]⟩
theorem f_maya : mayAct kAr = true := by decide +kernel
theorem f_act : actText kAr = ⟨#[99, 114, 97, 115, 104, 32, 50, 32, 49, 32, 48]⟩ := by
  have hg : getI ofActL 7 = some 17 := rfl
  unfold actText actWords kAr
  simp only [hg, Option.getD_some, addF, addA, hb17_1, hb17_2, hb17_4, hb17_8, hb17_16, List.map_cons, List.map_nil]
  unfold ito
  rw [ito_2, ito_1, ito_0]
  rfl
theorem f_yes : joinS [okB, yesB, wtx ⟨#[120]⟩] = ⟨#[111, 107, 32, 121, 101, 115, 32, 120]⟩ := by rfl
def kAn : An := ⟨9, 0, 0, 77, 0, 0, ⟨#[]⟩, false⟩
theorem f_err : errB kAn = ⟨#[101, 114, 114, 111, 114, 32, 57, 32, 55, 55]⟩ := by
  unfold errB kAn sp dec ito
  simp only [ito_9, dec_77]
  rfl
theorem f_l1 : lineS ⟨#[98, 101, 103, 105, 110]⟩ = ([⟨#[98, 101, 103, 105, 110]⟩], false) := by rfl
theorem f_l2 : lineS ⟨#[103, 101, 116, 32, 49]⟩ = ([⟨#[103, 101, 116]⟩, ⟨#[49]⟩], false) := by rfl
theorem f_l3 : lineS ⟨#[116, 105, 99, 107, 32, 48, 49]⟩ = ([⟨#[116, 105, 99, 107]⟩, ⟨#[48, 49]⟩], false) := by rfl
theorem f_k1 : kindOf ⟨#[98, 101, 103, 105, 110]⟩ = 1 := by
  unfold kindOf
  simp only [toList_bs]
  rfl
theorem f_k2 : kindOf ⟨#[103, 101, 116]⟩ = 2 := by
  unfold kindOf
  simp only [toList_bs]
  rfl

def kOp1 : Opr := ⟨1, 0, ⟨#[]⟩, ⟨#[]⟩, ⟨#[]⟩, 0, 0⟩
theorem f_of1 : opOfT ⟨#[98, 101, 103, 105, 110]⟩ = some kOp1 := by
  have hs : opOfS (lineS ⟨#[98, 101, 103, 105, 110]⟩) = (kOp1, ([], false)) := by
    rw [f_l1]
    unfold opOfS
    rw [show hd ([⟨#[98, 101, 103, 105, 110]⟩], false) = ⟨#[98, 101, 103, 105, 110]⟩ from rfl, f_k1, show getI namedL 1 = some 0 from rfl]
    simp [opOfM, st1, st2, st4, st8, st16, st32, h0_1, h0_2, h0_4, h0_8, h0_16, h0_32, adv, kOp1, opZero]
  have hm : mayOp kOp1 = true := by decide +kernel
  unfold opOfT
  rw [hs]
  simp only [hm, doneS, Bool.and_true]
  rfl
theorem f_of2 : opOfT ⟨#[103, 101, 116, 32, 49]⟩ = none := by
  have hd2 : doneS (opOfS (lineS ⟨#[103, 101, 116, 32, 49]⟩)).2 = false := by
    rw [f_l2]
    unfold opOfS
    rw [show hd ([⟨#[103, 101, 116]⟩, ⟨#[49]⟩], false) = ⟨#[103, 101, 116]⟩ from rfl, f_k2, show getI namedL 2 = some 5 from rfl]
    simp [opOfM, st1, st2, st4, st8, st16, st32, h5_1, h5_2, h5_4, h5_8, h5_16, h5_32, adv, doneS]
  unfold opOfT
  rw [hd2]
  rfl
theorem f_k3 : kindOfA ⟨#[116, 105, 99, 107]⟩ = 5 := by rfl
theorem f_i3 : intV ⟨#[48, 49]⟩ = (1, true) := by
  unfold intV
  rw [show Lib.atoiAll (⟨#[48, 49]⟩ : ByteArray).data.toList = .ok 1 from rfl]
  show ((1 : Int), !(Lib.itoa 1 == (⟨#[48, 49]⟩ : ByteArray).toList)) = (1, true)
  rw [ito_1, toList_bs]
  rfl
theorem f_of3 : actOfT ⟨#[116, 105, 99, 107, 32, 48, 49]⟩ = none := by
  have hd3 : doneS (actOfS (lineS ⟨#[116, 105, 99, 107, 32, 48, 49]⟩)).2 = false := by
    rw [f_l3]
    unfold actOfS
    rw [show hd ([⟨#[116, 105, 99, 107]⟩, ⟨#[48, 49]⟩], false) = ⟨#[116, 105, 99, 107]⟩ from rfl, f_k3, show getI ofActL 5 = some 1 from rfl]
    simp only [Option.getD_some, actOfM, sa1, sa2, sa4, sa8, sa16, hb1_1, hb1_2, hb1_4, hb1_8, hb1_16, adv, List.tail_cons]
    rw [show hd (([⟨#[48, 49]⟩] : List ByteArray), (false || ([⟨#[116, 105, 99, 107]⟩, ⟨#[48, 49]⟩] : List ByteArray).isEmpty || false)) = ⟨#[48, 49]⟩ from rfl, f_i3]
    rfl
  unfold actOfT
  rw [hd3]
  simp
end Go.Proofs.YtgplaeopcejmoaaGreatDoor
namespace Go.Proofs.YtgplaeopcejmoaaGreatDoor
open Go.RowKit Go.Shelf

theorem num_any (k : Int) (w : World) : Calls Tryz.prog 14 #[.int .i64 k] w fun e w' => e = .returned (.int .i64 k) ∧ w = w' := by
  go_enter Tryz.func14, Tryz.ntmps14
  go_wp2
  go_ret
  exact ⟨rfl, rfl⟩
theorem k_un1 (w : World) : Calls Tryz.prog 12 #[.string ⟨#[37]⟩] w fun e w' => e = .returned (.tuple #[.string ⟨#[]⟩, .int .i64 4]) ∧ Below w.heap.size w w' :=
  (unword_any ⟨#[37]⟩ (by decide) w).mono fun _ _ ⟨h, hb⟩ => ⟨by rw [f_un1] at h; exact h, hb⟩
theorem k_un2 (w : World) : Calls Tryz.prog 12 #[.string ⟨#[37, 52, 49]⟩] w fun e w' => e = .returned (.tuple #[.string ⟨#[]⟩, .int .i64 4]) ∧ Below w.heap.size w w' :=
  (unword_any ⟨#[37, 52, 49]⟩ (by decide) w).mono fun _ _ ⟨h, hb⟩ => ⟨by rw [f_un2] at h; exact h, hb⟩
theorem k_w1 (w : World) : Calls Tryz.prog 15 #[.string ⟨#[97, 32, 98]⟩] w fun e w' => e = .returned (.string ⟨#[97, 37, 50, 48, 98]⟩) ∧ Below w.heap.size w w' :=
  (word_any ⟨#[97, 32, 98]⟩ (by decide) w).mono fun _ _ ⟨h, hb⟩ => ⟨by rw [h, f_w1], hb⟩
theorem k_w2 (w : World) : Calls Tryz.prog 15 #[.string ⟨#[]⟩] w fun e w' => e = .returned (.string ⟨#[37, 45]⟩) ∧ Below w.heap.size w w' :=
  (word_any ⟨#[]⟩ (by decide) w).mono fun _ _ ⟨h, hb⟩ => ⟨by rw [h, f_w2], hb⟩
theorem k_op (w : World) (henv : Env w) : Calls Tryz.prog 17 #[.agg #[.int .i64 4, .int .u64 3, .string ⟨#[97]⟩, .string ⟨#[]⟩, .string ⟨#[120, 32, 121]⟩, .int .i64 0, .int .u64 0]] w fun e w' => e = .returned (.tuple #[.string ⟨#[112, 117, 116, 32, 51, 32, 97, 32, 120, 37, 50, 48, 121]⟩, .int .i64 0]) ∧ Below w.heap.size w w' :=
  (optext_any kOp (by decide) (by decide) (by decide) (by decide) w henv).mono fun _ _ ⟨h, hb⟩ => ⟨by rw [h]; unfold opTextR; rw [f_may, f_op]; rfl, hb⟩
theorem k_of1 (w : World) (henv : Env w) : Calls Tryz.prog 22 #[.string ⟨#[98, 101, 103, 105, 110]⟩] w fun e w' => e = .returned (.tuple #[.agg #[.int .i64 1, .int .u64 0, .string ⟨#[]⟩, .string ⟨#[]⟩, .string ⟨#[]⟩, .int .i64 0, .int .u64 0], .int .i64 0]) ∧ Below w.heap.size w w' :=
  (opofT_any ⟨#[98, 101, 103, 105, 110]⟩ (by decide) w henv).mono fun _ _ ⟨h, hb⟩ => ⟨by rw [h, f_of1]; rfl, hb⟩
theorem k_of2 (w : World) (henv : Env w) : Calls Tryz.prog 22 #[.string ⟨#[103, 101, 116, 32, 49]⟩] w fun e w' => e = .returned (.tuple #[.agg #[.int .i64 0, .int .u64 0, .string ⟨#[]⟩, .string ⟨#[]⟩, .string ⟨#[]⟩, .int .i64 0, .int .u64 0], .int .i64 4]) ∧ Below w.heap.size w w' :=
  (opofT_any ⟨#[103, 101, 116, 32, 49]⟩ (by decide) w henv).mono fun _ _ ⟨h, hb⟩ => ⟨by rw [h, f_of2]; rfl, hb⟩
theorem k_act (g : Nat) (w : World) (henv : Env w) (hg : Blk w g 3 [.int .i64 1, .int .i64 0]) : Calls Tryz.prog 18 #[.agg #[.int .i64 7, .int .i64 2, .int .i64 0, .int .i64 0, .int .i64 0, .int .u64 0, .string ⟨#[]⟩, .string ⟨#[]⟩, .string ⟨#[]⟩, .int .i64 0, .int .u64 0, .slice (some ⟨g, 0, none⟩) 2 2]] w fun e w' => e = .returned (.tuple #[.string ⟨#[99, 114, 97, 115, 104, 32, 50, 32, 49, 32, 48]⟩, .int .i64 0]) ∧ Below w.heap.size w w' :=
  (acttext_any kAr ⟨by decide, by decide, by decide, by decide, by decide, by decide, by decide⟩ (some ⟨g, 0, none⟩) 2 w
    (fun _ => ⟨g, 0, rfl, .inl hg.lt, fun j x hx => by
      rw [Nat.zero_add, hg.cell]
      match j, hx with
      | 0, hx => cases hx; rfl
      | 1, hx => cases hx; rfl
      | j + 2, hx => cases hx⟩) (fun _ => ⟨g, 0, rfl, hg.lt⟩) henv).mono fun _ _ ⟨h, hb⟩ => ⟨by rw [h]; unfold actTextR; rw [f_maya, f_act]; rfl, hb⟩
theorem k_of3 (w : World) (henv : Env w) : Calls Tryz.prog 25 #[.string ⟨#[116, 105, 99, 107, 32, 48, 49]⟩] w fun e w' => (∃ pa pc, e = .returned (.tuple #[.agg #[.int .i64 0, .int .i64 0, .int .i64 0, .int .i64 0, .int .i64 0, .int .u64 0, .string ⟨#[]⟩, .string ⟨#[]⟩, .string ⟨#[]⟩, .int .i64 0, .int .u64 0, .slice pa 0 pc], .int .i64 4])) ∧ Below w.heap.size w w' :=
  (actofT_any ⟨#[116, 105, 99, 107, 32, 48, 49]⟩ (by decide) w henv).mono fun _ _ ⟨h, hb⟩ => ⟨by
    rw [f_of3] at h
    obtain ⟨pa, pc, h, _⟩ := h
    exact ⟨pa, pc, h⟩, hb⟩
theorem k_t1 (w : World) : Calls Tryz.prog 42 #[.int .i64 2, .agg #[.int .i64 0, .int .u64 0, .int .i64 0, .int .u64 0, .int .u64 0, .int .u64 0, .string ⟨#[120]⟩, .bool true, .slice none 0 0]] w fun e w' => e = .returned (.string ⟨#[111, 107, 32, 121, 101, 115, 32, 120]⟩) ∧ Below w.heap.size w w' :=
  (told_yes ⟨0, 0, 0, 0, 0, 0, ⟨#[120]⟩, true⟩ (.slice none 0 0) rfl rfl (by decide) w).mono fun _ _ ⟨h, hb⟩ => ⟨by rw [h, f_yes], hb⟩
theorem k_t2 (w : World) (henv : Env w) : Calls Tryz.prog 42 #[.int .i64 8, .agg #[.int .i64 9, .int .u64 0, .int .i64 0, .int .u64 77, .int .u64 0, .int .u64 0, .string ⟨#[]⟩, .bool false, .slice none 0 0]] w fun e w' => e = .returned (.string ⟨#[101, 114, 114, 111, 114, 32, 57, 32, 55, 55]⟩) ∧ Below w.heap.size w w' :=
  (told_err 8 kAn (.slice none 0 0) (by decide) (by decide) (by decide) (by decide) w henv).mono fun _ _ ⟨h, hb⟩ => ⟨by rw [h, f_err], hb⟩
theorem isum0 : IntKind.i64.wrap (0 + 0) = 0 := by decide

set_option maxRecDepth 100000 in
set_option maxHeartbeats 4000000 in
theorem known_any (w : World) (henv : Env w) : Calls Tryz.prog 11 #[] w fun e w' => e = .returned (.bool true) ∧ Below w.heap.size w w' := by
  have HB := Below.refl w.heap.size w
  go_enter Tryz.func11, Tryz.ntmps11
  go_wp2_with (first
    | (go_at_call 12; (with_reducible refine (k_un1 _).mono ?_); rintro e w1 ⟨rfl, hb⟩; replace HB := HB.trans (hb.mono HB.size); clear hb)
    | (go_at_call 12; (with_reducible refine (k_un2 _).mono ?_); rintro e w2 ⟨rfl, hb⟩; replace HB := HB.trans (hb.mono HB.size); clear hb)
    | (go_at_call 17; (with_reducible refine (k_op _ (henv.below HB)).mono ?_); rintro e w3 ⟨rfl, hb⟩; replace HB := HB.trans (hb.mono HB.size); clear hb)
    | (go_at_call 22; (with_reducible refine (k_of1 _ (henv.below HB)).mono ?_); rintro e w4 ⟨rfl, hb⟩; replace HB := HB.trans (hb.mono HB.size); clear hb
       replace HB := HB.alloc HB.size (.cells #[.int .i64 1, .int .u64 0, .string ⟨#[]⟩, .string ⟨#[]⟩, .string ⟨#[]⟩, .int .i64 0, .int .u64 0] 34)
       have HX := Blk.new w4 34 [.int .i64 1, .int .u64 0, .string ⟨#[]⟩, .string ⟨#[]⟩, .string ⟨#[]⟩, .int .i64 0, .int .u64 0])
    | (go_at_call 22; (with_reducible refine (k_of2 _ (henv.below HB)).mono ?_); rintro e w5 ⟨rfl, hb⟩; replace HX := HX.below hb HX.lt; replace HB := HB.trans (hb.mono HB.size); clear hb
       replace HB := (HB.alloc HB.size (.cells #[.int .i64 0, .int .u64 0, .string ⟨#[]⟩, .string ⟨#[]⟩, .string ⟨#[]⟩, .int .i64 0, .int .u64 0] 34))
       replace HX := HX.alloc (.cells #[.int .i64 0, .int .u64 0, .string ⟨#[]⟩, .string ⟨#[]⟩, .string ⟨#[]⟩, .int .i64 0, .int .u64 0] 34)
       have hsl := Blk.new (w5.alloc (.cells #[.int .i64 0, .int .u64 0, .string ⟨#[]⟩, .string ⟨#[]⟩, .string ⟨#[]⟩, .int .i64 0, .int .u64 0] 34)) 3 [.int .i64 1, .int .i64 0]
       rw [World.size_alloc] at hsl
       replace HB := (HB.alloc HB.size (.cells #[.int .i64 1, .int .i64 0] 3))
       replace HX := HX.alloc (.cells #[.int .i64 1, .int .i64 0] 3))
    | (go_at_call 18; (with_reducible refine (k_act _ _ (henv.below HB) hsl).mono ?_); rintro e w6 ⟨rfl, hb⟩; replace HX := HX.below hb HX.lt; replace HB := HB.trans (hb.mono HB.size); clear hb)
    | (go_at_call 25; (with_reducible refine (k_of3 _ (henv.below HB)).mono ?_); rintro e w7 ⟨⟨pa, pc, rfl⟩, hb⟩; replace HX := HX.below hb HX.lt; replace HB := HB.trans (hb.mono HB.size); clear hb
       replace HB := HB.alloc HB.size (.cells #[.int .i64 0, .int .i64 0, .int .i64 0, .int .i64 0, .int .i64 0, .int .u64 0, .string ⟨#[]⟩, .string ⟨#[]⟩, .string ⟨#[]⟩, .int .i64 0, .int .u64 0, .slice pa 0 pc] 39)
       replace HX := HX.alloc (.cells #[.int .i64 0, .int .i64 0, .int .i64 0, .int .i64 0, .int .i64 0, .int .u64 0, .string ⟨#[]⟩, .string ⟨#[]⟩, .string ⟨#[]⟩, .int .i64 0, .int .u64 0, .slice pa 0 pc] 39))
    | (go_at_call 15; (with_reducible refine (k_w1 _).mono ?_); rintro e w8 ⟨rfl, hb⟩; replace HX := HX.below hb HX.lt; replace HB := HB.trans (hb.mono HB.size); clear hb)
    | (go_at_call 15; (with_reducible refine (k_w2 _).mono ?_); rintro e w9 ⟨rfl, hb⟩; replace HX := HX.below hb HX.lt; replace HB := HB.trans (hb.mono HB.size); clear hb
       have cx : w9.cell? ⟨w4.heap.size, 0, none⟩ = some (.int .i64 1) := HX.cell 0)
    | (go_at_call 14; refine (num_any _ _).mono ?_; rintro e wq ⟨rfl, rfl⟩)
    | (go_at_call 42; (with_reducible refine (k_t1 _).mono ?_); rintro e w10 ⟨rfl, hb⟩; replace HB := HB.trans (hb.mono HB.size); clear hb)
    | (go_at_call 42; (with_reducible refine (k_t2 _ (henv.below HB)).mono ?_); rintro e w11 ⟨rfl, hb⟩; replace HB := HB.trans (hb.mono HB.size); clear hb))

  go_ret
  exact ⟨rfl, HB⟩
end Go.Proofs.YtgplaeopcejmoaaGreatDoor
