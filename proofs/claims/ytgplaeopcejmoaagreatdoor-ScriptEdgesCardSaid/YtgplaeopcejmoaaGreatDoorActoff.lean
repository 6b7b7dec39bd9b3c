/- The walk of ActOf: one mask of fields. -/
import Derived.Test.YtgplaeopcejmoaaGreatDoorActofb
namespace Go.Proofs.YtgplaeopcejmoaaGreatDoor
open Go.RowKit Go.Shelf

set_option maxRecDepth 100000 in
set_option maxHeartbeats 16000000 in
theorem actofT_m1 (t : ByteArray) (ht : t.size ≤ 1000000) (w : World) (henv : Env w) (hmm : getI ofActL (kindOfA (hd (lineS t))) = some 1) :
    Calls Tryz.prog 25 #[.string t] w fun e w' => ActRes w w' (actOfT t) e ∧ Below w.heap.size w w' := by
  have hR0 := Blk.new w 39 (actCells arZero (.slice none 0 0))
  have hb0 : Below w.heap.size w (w.alloc (.cells (actCells arZero (.slice none 0 0)).toArray 39)) := (Below.refl _ _).alloc (Nat.le_refl _) _
  obtain ⟨x, hx⟩ : ∃ x, (lineS t).1.headD ⟨#[]⟩ = x := ⟨_, rfl⟩
  have HX := Lib.hid hx; clear hx
  obtain ⟨kd, hkd⟩ : ∃ kd, Lib.idxOfS actNames x = kd := ⟨_, rfl⟩
  have hkr : -1 ≤ kd ∧ kd < 12 := by
    have := idxFrom_range x actNames 0
    rw [← hkd]
    exact ⟨this.1, by have := this.2; simpa [actNames, Lib.idxOfS] using this⟩
  have hwk : IntKind.i64.wrap (1 + kd) = 1 + kd := by rw [IntKind.wrap_i64]; omega
  have HK := Lib.hid hkd; clear hkd
  obtain ⟨mo, hmo⟩ : ∃ mo, getI ofActL (1 + kd) = mo := ⟨_, rfl⟩
  have hv : ofActV (1 + kd) = .tuple #[.int .i64 (mo.getD 0), .bool mo.isSome] := by unfold ofActV; rw [hmo]
  have HG := Lib.hid hmo; clear hmo
  have HX0 : kindOfA (hd (lineS t)) = 1 + kd := by unfold kindOfA; rw [show hd (lineS t) = x from HX.out, HK.out]
  obtain ⟨ar, sF, hS⟩ : ∃ ar sF, actOfS (lineS t) = (ar, sF) := ⟨_, _, rfl⟩
  obtain ⟨d, hd'⟩ : ∃ d, doneS sF = d := ⟨_, rfl⟩
  obtain ⟨ma, hma⟩ : ∃ ma, mayAct ar = ma := ⟨_, rfl⟩
  have hT : actOfT t = if (mo.isSome && d) && ma then some ar else none := by
    unfold actOfT
    rw [hS, hd', hma, show kindOfA (hd (lineS t)) = 1 + kd from by unfold kindOfA; rw [show hd (lineS t) = x from HX.out, HK.out], HG.out]
  have HT := Lib.hid hT; clear hT
  have HS := Lib.hid hS; have HD := Lib.hid hd'; have HMA := Lib.hid hma
  clear hS hd' hma
  rw [HT.out]
  go_enter Tryz.func25, Tryz.ntmps25
  go_wp2_with (first
    | (go_at_call 62; refine (lineOf_any t ht _ (henv.below hb0)).mono ?_; rintro e w1 ⟨b, g, rfl, hbb, hgb, hl, hb1⟩
       have hR1 := hR0.below hb1 (by simp)
       have hB1 : Below w.heap.size w w1 := hb0.trans (hb1.mono (by simp))
       have hbb' : w.heap.size < b := by simp at hbb; omega
       have hgb' : w.heap.size < g := by simp at hgb; omega
       clear hb1 hbb hgb)
    | (go_at_call 58; refine (actNames_x _).mono ?_; rintro e w2 ⟨gn, rfl, hBn, hb2, hgn⟩
       have hl2 := hl.below hb2
       have hR2 := hR1.below hb2 hR1.lt
       have hB2 := hB1.trans (hb2.mono hB1.size)
       clear hb2)
    | (go_at_call 67; refine (lword_any b g _ _ _ hl2).mono ?_; rintro e w3 ⟨rfl, hl3, hg3⟩; rw [show (Lib.splitB _ 0 _ t).headD ⟨#[]⟩ = x from HX.out]
       obtain ⟨⟨L, hL⟩, _⟩ := hl2.blk
       have n1 := blk_ne hBn hL (by decide)
       have n2 := blk_ne hR2 hL (by decide)
       have hBn3 := hBn.grown hg3 (fun e => by injection e with e; exact n1 e)
       have hR3 := hR2.grown hg3 (fun e => by injection e with e; exact n2 e)
       have hB3 : Below w.heap.size w w3 := hB2.grown hg3 hB2.size (fun i e => by injection e with e; omega)
       clear hg3)
    | (go_at_call 66; refine (Tryz.slices_Index_string gn 0 12 12 actNames x _ (by decide) (by omega) ?hc).mono ?_
       case hc => exact fun j hj => by rw [Nat.zero_add]; exact (hBn3.cell j).trans (actNames_get j hj)
       rintro e w4 ⟨rfl, rfl⟩; rw [show Lib.idxOfS (actNames.take 12) x = kd from HK.out]
       have hA4 := Blk.new w4 39 (actCells { arZero with kind := 1 + kd } (.slice none 0 0))
       have hB4 := hB3.alloc hB3.size (.cells (actCells { arZero with kind := 1 + kd } (.slice none 0 0)).toArray 39))
    | (go_at_call 57; refine (ofAct_any (1 + kd) _).mono ?_; rintro e w5 ⟨rfl, rfl⟩; rw [hv]))
  have hrl := hR3.lt
  have hgac : Gac w (w4.alloc (.cells (actCells { arZero with kind := 1 + kd } (.slice none 0 0)).toArray 39)) b g (adv (lineS t) false) w.heap.size w4.heap.size (actCells { arZero with kind := 1 + kd } (.slice none 0 0)) :=
    ⟨hB4, (show LineAt _ b g (adv (lineS t) false).1 (adv (lineS t) false).2 from by have := hl3.below ((Below.refl _ _).alloc (Nat.le_refl _) (.cells (actCells { arZero with kind := 1 + kd } (.slice none 0 0)).toArray 39)); simpa [adv, lineS] using this), hR3.alloc _, hA4, Nat.le_of_lt hbb', Nat.le_of_lt hgb', Nat.le_refl _, hB3.size, by omega⟩
  obtain ⟨s1, hs1⟩ : ∃ s1, adv (lineS t) false = s1 := ⟨_, rfl⟩
  have HS1 := Lib.hid hs1
  rw [hs1] at hgac
  clear hs1
  have hN : ∀ m : Int, Gacn w ((w4.alloc (.cells (actCells { arZero with kind := 1 + kd } (.slice none 0 0)).toArray 39)).alloc (.cells #[.int .i64 m] 3)) b g s1 w.heap.size w4.heap.size (actCells { arZero with kind := 1 + kd } (.slice none 0 0)) m (w4.heap.size + 1) := fun m =>
    ⟨hgac.alloc _, (by have := Blk.new (w4.alloc (.cells (actCells { arZero with kind := 1 + kd } (.slice none 0 0)).toArray 39)) 3 [.int .i64 m]; rw [World.size_alloc] at this; exact this), by omega⟩
  have hAr : ∀ m : Int, mo.getD 0 = m → actOfM m ({ arZero with kind := 1 + kd }, s1) = (ar, sF) := by
    intro m hm
    rw [← HS.out]
    unfold actOfS
    rw [show kindOfA (hd (lineS t)) = 1 + kd from by unfold kindOfA; rw [show hd (lineS t) = x from HX.out, HK.out], HG.out, HS1.out, hm]
  have HAr := Lib.hid hAr; clear hAr
  obtain ⟨rb, hrb⟩ : ∃ rb, w.heap.size = rb := ⟨_, rfl⟩
  have HN := Lib.hid hN; clear hN
  have hbl := hl3.lt
  clear hgac hA4 hB4 hR3 hB3 hBn3 hl3 hR2 hB2 hl2 hBn hgn hR1 hB1 hl hb0 hR0 hwk hrl n1 n2 hL hrb
  have hmo2 : mo = some 1 := by rw [← HG.out, ← hmm, HX0]
  clear hmm HX0
  subst hmo2
  have HA := HN.out 1
  clear HN
  obtain ⟨W0, hW0⟩ : ∃ W0, (w4.alloc (.cells (actCells { arZero with kind := 1 + kd } (.slice none 0 0)).toArray 39)).alloc (.cells #[.int .i64 1] 3) = W0 := ⟨_, rfl⟩
  have cN : W0.cell? ⟨w4.heap.size + 1, 0, none⟩ = some (.int .i64 1) := by rw [← hW0]; exact HA.nam.cell 0
  change Calls _ _ _ ((w4.alloc (.cells (actCells { arZero with kind := 1 + kd } (.slice none 0 0)).toArray 39)).alloc (.cells #[.int .i64 1] 3)) _
  rw [hW0] at HA ⊢
  clear hW0
  go_wp2_with (first
    | (go_at_call 68; ((with_reducible refine (hasA_at (f := 1) (b := true) hb1_1 cN).mono ?_); rintro e wx ⟨rfl, rfl⟩))
    | (go_at_call 68; ((with_reducible refine (hasA_at (f := 2) (b := false) hb1_2 cN).mono ?_); rintro e wx ⟨rfl, rfl⟩))
    | (go_at_call 68; ((with_reducible refine (hasA_at (f := 4) (b := false) hb1_4 cN).mono ?_); rintro e wx ⟨rfl, rfl⟩))
    | (go_at_call 68; ((with_reducible refine (hasA_at (f := 8) (b := false) hb1_8 cN).mono ?_); rintro e wx ⟨rfl, rfl⟩))
    | (go_at_call 69; ((with_reducible refine (lint_x b g (s1) _ HA.gac.line (fun _ k => HA.gac.env henv k)).mono ?_); rintro e wx ⟨r1, d1, hr1, rfl, hlx, hgx⟩; replace HA := HA.took (s' := adv (s1) d1) hlx hgx; clear hlx hgx cN; have HR1 := Lib.hid hr1; clear hr1; have cF1 : wx.cell? ⟨w4.heap.size, 1, none⟩ = some (.int .i64 0) := HA.gac.box.cell 1; have fF1 := HA.gac.box.frozen 1; replace HA := HA.field 1 (.int .i64 r1) (actCells { arZero with kind := 1 + kd, node := r1 } (.slice none 0 0)) (by simp [actCells]) rfl; have cN := HA.nam.cell 0)))
  go_loopg [66] 0 (fun gh _ wr => gh = 0 ∧ Gacn w wr b g (adv (s1) d1) w.heap.size w4.heap.size (actCells { arZero with kind := 1 + kd, node := r1 } (.slice none 0 0)) 1 (w4.heap.size + 1))
  case atStart => exact ⟨rfl, HA⟩
  case round =>
    obtain ⟨_, HA⟩ := hrel
    have cN : wr.cell? ⟨w4.heap.size + 1, 0, none⟩ = some (.int .i64 1) := HA.nam.cell 0
    have hfin : ({ arZero with kind := 1 + kd, node := r1 }, adv (s1) d1) = (ar, sF) := by
      rw [← HAr.out 1 rfl]
      simp [actOfM, sa1, sa2, sa4, sa8, sa16, hb1_1, hb1_2, hb1_4, hb1_8, hb1_16, HR1.out]
    obtain ⟨har, hsF⟩ := Prod.mk.inj hfin
    rw [har, hsF] at HA
    have hpk : ar.picks = [] := by rw [← har]; rfl
    obtain ⟨A, cA, hpv⟩ : ∃ A cA, Value.slice none 0 0 = .slice A ar.picks.length cA := ⟨none, 0, by rw [hpk]; rfl⟩
    have HO : OwnI wr (w4.heap.size + 2) (.slice A ar.picks.length cA) ar.picks := by rw [← hpv, hpk]; exact OwnI.nil _ _
    rw [hpv] at HA
    clear har hsF hfin hpk hpv
    go_wp2_with (go_at_call 68; ((with_reducible refine (hasA_at (f := 16) (b := false) hb1_16 cN).mono ?_); rintro e wx ⟨rfl, rfl⟩))
    have q0 : wr.cell? ⟨w4.heap.size, 0, none⟩ = some (.int .i64 ar.kind) := HA.gac.box.cell 0
    have q1 : wr.cell? ⟨w4.heap.size, 1, none⟩ = some (.int .i64 ar.node) := HA.gac.box.cell 1
    have q2 : wr.cell? ⟨w4.heap.size, 2, none⟩ = some (.int .i64 ar.source) := HA.gac.box.cell 2
    have q3 : wr.cell? ⟨w4.heap.size, 3, none⟩ = some (.int .i64 ar.n) := HA.gac.box.cell 3
    have q4 : wr.cell? ⟨w4.heap.size, 4, none⟩ = some (.int .i64 ar.op.kind) := HA.gac.box.cell 4
    have q5 : wr.cell? ⟨w4.heap.size, 5, none⟩ = some (.int .u64 (ar.op.n : Int)) := HA.gac.box.cell 5
    have q6 : wr.cell? ⟨w4.heap.size, 6, none⟩ = some (.string ar.op.key) := HA.gac.box.cell 6
    have q7 : wr.cell? ⟨w4.heap.size, 7, none⟩ = some (.string ar.op.til) := HA.gac.box.cell 7
    have q8 : wr.cell? ⟨w4.heap.size, 8, none⟩ = some (.string ar.op.value) := HA.gac.box.cell 8
    have q9 : wr.cell? ⟨w4.heap.size, 9, none⟩ = some (.int .i64 ar.op.level) := HA.gac.box.cell 9
    have q10 : wr.cell? ⟨w4.heap.size, 10, none⟩ = some (.int .u64 (ar.op.lsn : Int)) := HA.gac.box.cell 10
    have q11 : wr.cell? ⟨w4.heap.size, 11, none⟩ = some (.slice A ar.picks.length cA) := HA.gac.box.cell 11
    cases d <;> cases ma
    all_goals
      go_wp2_with (first
        | (go_at_call 64; refine (ldone_any b g _ _ _ HA.gac.line).mono ?_; rintro e wx ⟨rfl, rfl⟩; rw [show (!sF.2 && sF.1.isEmpty) = _ from HD.out])
        | (go_at_call 27; refine (mayact_v ar A cA _).mono ?_; rintro e wx ⟨rfl, hbx⟩; rw [HMA.out]; replace HA := HA.next hbx; replace HO := HO.kept (row := none) ⟨hbx.os, hbx.tape, hbx.output, hbx.size, fun j hj _ => hbx.block j hj⟩ (by simp); clear hbx)
        | (refine wpList_load_row rfl 39 _ rfl w4.heap.size rfl 39 _ (0, 0) _ HA.gac.box Tryz.underlying39 rfl infoAct ?_)
        | (refine wpList_store_row rfl 39 _ _ rfl w.heap.size (actCells ar (.slice A ar.picks.length cA)).toArray rfl rfl 39 _ HA.gac.res infoAct rfl (actCells_one _ _ _ _) ?_)
        | (refine wpList_store_row rfl 39 _ _ rfl w.heap.size (actCells arZero (.slice none 0 0)).toArray rfl rfl 39 _ HA.gac.res infoAct rfl (actCells_one _ _ _ _) ?_))
    all_goals
      have hrbb : w.heap.size < w4.heap.size + 2 := by omega
      first
      | (refine bodyPost_ret (results_row_tmp rfl _ _ w.heap.size 39 (actCells ar (.slice A ar.picks.length cA)).toArray (0, 0) _ rfl (HA.gac.res.set (actCells ar (.slice A ar.picks.length cA))) Tryz.underlying39 rfl infoAct) rfl ?_
         exact ⟨actRes_some (HO.kept (grownBy_setRow _ _ _) (fun i e => by injection e with e; omega)) (by omega), below_setRow HA.gac.below (Nat.le_refl _) _⟩)
      | (refine bodyPost_ret (results_row_tmp rfl _ _ w.heap.size 39 (actCells arZero (.slice none 0 0)).toArray (0, 0) _ rfl (HA.gac.res.set (actCells arZero (.slice none 0 0))) Tryz.underlying39 rfl infoAct) rfl ?_
         exact ⟨actRes_none, below_setRow HA.gac.below (Nat.le_refl _) _⟩)

set_option maxRecDepth 100000 in
set_option maxHeartbeats 16000000 in
theorem actofT_m5 (t : ByteArray) (ht : t.size ≤ 1000000) (w : World) (henv : Env w) (hmm : getI ofActL (kindOfA (hd (lineS t))) = some 5) :
    Calls Tryz.prog 25 #[.string t] w fun e w' => ActRes w w' (actOfT t) e ∧ Below w.heap.size w w' := by
  have hR0 := Blk.new w 39 (actCells arZero (.slice none 0 0))
  have hb0 : Below w.heap.size w (w.alloc (.cells (actCells arZero (.slice none 0 0)).toArray 39)) := (Below.refl _ _).alloc (Nat.le_refl _) _
  obtain ⟨x, hx⟩ : ∃ x, (lineS t).1.headD ⟨#[]⟩ = x := ⟨_, rfl⟩
  have HX := Lib.hid hx; clear hx
  obtain ⟨kd, hkd⟩ : ∃ kd, Lib.idxOfS actNames x = kd := ⟨_, rfl⟩
  have hkr : -1 ≤ kd ∧ kd < 12 := by
    have := idxFrom_range x actNames 0
    rw [← hkd]
    exact ⟨this.1, by have := this.2; simpa [actNames, Lib.idxOfS] using this⟩
  have hwk : IntKind.i64.wrap (1 + kd) = 1 + kd := by rw [IntKind.wrap_i64]; omega
  have HK := Lib.hid hkd; clear hkd
  obtain ⟨mo, hmo⟩ : ∃ mo, getI ofActL (1 + kd) = mo := ⟨_, rfl⟩
  have hv : ofActV (1 + kd) = .tuple #[.int .i64 (mo.getD 0), .bool mo.isSome] := by unfold ofActV; rw [hmo]
  have HG := Lib.hid hmo; clear hmo
  have HX0 : kindOfA (hd (lineS t)) = 1 + kd := by unfold kindOfA; rw [show hd (lineS t) = x from HX.out, HK.out]
  obtain ⟨ar, sF, hS⟩ : ∃ ar sF, actOfS (lineS t) = (ar, sF) := ⟨_, _, rfl⟩
  obtain ⟨d, hd'⟩ : ∃ d, doneS sF = d := ⟨_, rfl⟩
  obtain ⟨ma, hma⟩ : ∃ ma, mayAct ar = ma := ⟨_, rfl⟩
  have hT : actOfT t = if (mo.isSome && d) && ma then some ar else none := by
    unfold actOfT
    rw [hS, hd', hma, show kindOfA (hd (lineS t)) = 1 + kd from by unfold kindOfA; rw [show hd (lineS t) = x from HX.out, HK.out], HG.out]
  have HT := Lib.hid hT; clear hT
  have HS := Lib.hid hS; have HD := Lib.hid hd'; have HMA := Lib.hid hma
  clear hS hd' hma
  rw [HT.out]
  go_enter Tryz.func25, Tryz.ntmps25
  go_wp2_with (first
    | (go_at_call 62; refine (lineOf_any t ht _ (henv.below hb0)).mono ?_; rintro e w1 ⟨b, g, rfl, hbb, hgb, hl, hb1⟩
       have hR1 := hR0.below hb1 (by simp)
       have hB1 : Below w.heap.size w w1 := hb0.trans (hb1.mono (by simp))
       have hbb' : w.heap.size < b := by simp at hbb; omega
       have hgb' : w.heap.size < g := by simp at hgb; omega
       clear hb1 hbb hgb)
    | (go_at_call 58; refine (actNames_x _).mono ?_; rintro e w2 ⟨gn, rfl, hBn, hb2, hgn⟩
       have hl2 := hl.below hb2
       have hR2 := hR1.below hb2 hR1.lt
       have hB2 := hB1.trans (hb2.mono hB1.size)
       clear hb2)
    | (go_at_call 67; refine (lword_any b g _ _ _ hl2).mono ?_; rintro e w3 ⟨rfl, hl3, hg3⟩; rw [show (Lib.splitB _ 0 _ t).headD ⟨#[]⟩ = x from HX.out]
       obtain ⟨⟨L, hL⟩, _⟩ := hl2.blk
       have n1 := blk_ne hBn hL (by decide)
       have n2 := blk_ne hR2 hL (by decide)
       have hBn3 := hBn.grown hg3 (fun e => by injection e with e; exact n1 e)
       have hR3 := hR2.grown hg3 (fun e => by injection e with e; exact n2 e)
       have hB3 : Below w.heap.size w w3 := hB2.grown hg3 hB2.size (fun i e => by injection e with e; omega)
       clear hg3)
    | (go_at_call 66; refine (Tryz.slices_Index_string gn 0 12 12 actNames x _ (by decide) (by omega) ?hc).mono ?_
       case hc => exact fun j hj => by rw [Nat.zero_add]; exact (hBn3.cell j).trans (actNames_get j hj)
       rintro e w4 ⟨rfl, rfl⟩; rw [show Lib.idxOfS (actNames.take 12) x = kd from HK.out]
       have hA4 := Blk.new w4 39 (actCells { arZero with kind := 1 + kd } (.slice none 0 0))
       have hB4 := hB3.alloc hB3.size (.cells (actCells { arZero with kind := 1 + kd } (.slice none 0 0)).toArray 39))
    | (go_at_call 57; refine (ofAct_any (1 + kd) _).mono ?_; rintro e w5 ⟨rfl, rfl⟩; rw [hv]))
  have hrl := hR3.lt
  have hgac : Gac w (w4.alloc (.cells (actCells { arZero with kind := 1 + kd } (.slice none 0 0)).toArray 39)) b g (adv (lineS t) false) w.heap.size w4.heap.size (actCells { arZero with kind := 1 + kd } (.slice none 0 0)) :=
    ⟨hB4, (show LineAt _ b g (adv (lineS t) false).1 (adv (lineS t) false).2 from by have := hl3.below ((Below.refl _ _).alloc (Nat.le_refl _) (.cells (actCells { arZero with kind := 1 + kd } (.slice none 0 0)).toArray 39)); simpa [adv, lineS] using this), hR3.alloc _, hA4, Nat.le_of_lt hbb', Nat.le_of_lt hgb', Nat.le_refl _, hB3.size, by omega⟩
  obtain ⟨s1, hs1⟩ : ∃ s1, adv (lineS t) false = s1 := ⟨_, rfl⟩
  have HS1 := Lib.hid hs1
  rw [hs1] at hgac
  clear hs1
  have hN : ∀ m : Int, Gacn w ((w4.alloc (.cells (actCells { arZero with kind := 1 + kd } (.slice none 0 0)).toArray 39)).alloc (.cells #[.int .i64 m] 3)) b g s1 w.heap.size w4.heap.size (actCells { arZero with kind := 1 + kd } (.slice none 0 0)) m (w4.heap.size + 1) := fun m =>
    ⟨hgac.alloc _, (by have := Blk.new (w4.alloc (.cells (actCells { arZero with kind := 1 + kd } (.slice none 0 0)).toArray 39)) 3 [.int .i64 m]; rw [World.size_alloc] at this; exact this), by omega⟩
  have hAr : ∀ m : Int, mo.getD 0 = m → actOfM m ({ arZero with kind := 1 + kd }, s1) = (ar, sF) := by
    intro m hm
    rw [← HS.out]
    unfold actOfS
    rw [show kindOfA (hd (lineS t)) = 1 + kd from by unfold kindOfA; rw [show hd (lineS t) = x from HX.out, HK.out], HG.out, HS1.out, hm]
  have HAr := Lib.hid hAr; clear hAr
  obtain ⟨rb, hrb⟩ : ∃ rb, w.heap.size = rb := ⟨_, rfl⟩
  have HN := Lib.hid hN; clear hN
  have hbl := hl3.lt
  clear hgac hA4 hB4 hR3 hB3 hBn3 hl3 hR2 hB2 hl2 hBn hgn hR1 hB1 hl hb0 hR0 hwk hrl n1 n2 hL hrb
  have hmo2 : mo = some 5 := by rw [← HG.out, ← hmm, HX0]
  clear hmm HX0
  subst hmo2
  have HA := HN.out 5
  clear HN
  obtain ⟨W0, hW0⟩ : ∃ W0, (w4.alloc (.cells (actCells { arZero with kind := 1 + kd } (.slice none 0 0)).toArray 39)).alloc (.cells #[.int .i64 5] 3) = W0 := ⟨_, rfl⟩
  have cN : W0.cell? ⟨w4.heap.size + 1, 0, none⟩ = some (.int .i64 5) := by rw [← hW0]; exact HA.nam.cell 0
  change Calls _ _ _ ((w4.alloc (.cells (actCells { arZero with kind := 1 + kd } (.slice none 0 0)).toArray 39)).alloc (.cells #[.int .i64 5] 3)) _
  rw [hW0] at HA ⊢
  clear hW0
  go_wp2_with (first
    | (go_at_call 68; ((with_reducible refine (hasA_at (f := 1) (b := true) hb5_1 cN).mono ?_); rintro e wx ⟨rfl, rfl⟩))
    | (go_at_call 68; ((with_reducible refine (hasA_at (f := 2) (b := false) hb5_2 cN).mono ?_); rintro e wx ⟨rfl, rfl⟩))
    | (go_at_call 68; ((with_reducible refine (hasA_at (f := 4) (b := true) hb5_4 cN).mono ?_); rintro e wx ⟨rfl, rfl⟩))
    | (go_at_call 68; ((with_reducible refine (hasA_at (f := 8) (b := false) hb5_8 cN).mono ?_); rintro e wx ⟨rfl, rfl⟩))
    | (go_at_call 69; ((with_reducible refine (lint_x b g (s1) _ HA.gac.line (fun _ k => HA.gac.env henv k)).mono ?_); rintro e wx ⟨r1, d1, hr1, rfl, hlx, hgx⟩; replace HA := HA.took (s' := adv (s1) d1) hlx hgx; clear hlx hgx cN; have HR1 := Lib.hid hr1; clear hr1; have cF1 : wx.cell? ⟨w4.heap.size, 1, none⟩ = some (.int .i64 0) := HA.gac.box.cell 1; have fF1 := HA.gac.box.frozen 1; replace HA := HA.field 1 (.int .i64 r1) (actCells { arZero with kind := 1 + kd, node := r1 } (.slice none 0 0)) (by simp [actCells]) rfl; have cN := HA.nam.cell 0))
    | (go_at_call 69; ((with_reducible refine (lint_x b g (adv (s1) d1) _ HA.gac.line (fun _ k => HA.gac.env henv k)).mono ?_); rintro e wx ⟨r4, d4, hr4, rfl, hlx, hgx⟩; replace HA := HA.took (s' := adv (adv (s1) d1) d4) hlx hgx; clear hlx hgx cN; have HR4 := Lib.hid hr4; clear hr4; have cF4 : wx.cell? ⟨w4.heap.size, 3, none⟩ = some (.int .i64 0) := HA.gac.box.cell 3; have fF4 := HA.gac.box.frozen 3; replace HA := HA.field 3 (.int .i64 r4) (actCells { arZero with kind := 1 + kd, node := r1, n := r4 } (.slice none 0 0)) (by simp [actCells]) rfl; have cN := HA.nam.cell 0)))
  go_loopg [66] 0 (fun gh _ wr => gh = 0 ∧ Gacn w wr b g (adv (adv (s1) d1) d4) w.heap.size w4.heap.size (actCells { arZero with kind := 1 + kd, node := r1, n := r4 } (.slice none 0 0)) 5 (w4.heap.size + 1))
  case atStart => exact ⟨rfl, HA⟩
  case round =>
    obtain ⟨_, HA⟩ := hrel
    have cN : wr.cell? ⟨w4.heap.size + 1, 0, none⟩ = some (.int .i64 5) := HA.nam.cell 0
    have hfin : ({ arZero with kind := 1 + kd, node := r1, n := r4 }, adv (adv (s1) d1) d4) = (ar, sF) := by
      rw [← HAr.out 5 rfl]
      simp [actOfM, sa1, sa2, sa4, sa8, sa16, hb5_1, hb5_2, hb5_4, hb5_8, hb5_16, HR1.out, HR4.out]
    obtain ⟨har, hsF⟩ := Prod.mk.inj hfin
    rw [har, hsF] at HA
    have hpk : ar.picks = [] := by rw [← har]; rfl
    obtain ⟨A, cA, hpv⟩ : ∃ A cA, Value.slice none 0 0 = .slice A ar.picks.length cA := ⟨none, 0, by rw [hpk]; rfl⟩
    have HO : OwnI wr (w4.heap.size + 2) (.slice A ar.picks.length cA) ar.picks := by rw [← hpv, hpk]; exact OwnI.nil _ _
    rw [hpv] at HA
    clear har hsF hfin hpk hpv
    go_wp2_with (go_at_call 68; ((with_reducible refine (hasA_at (f := 16) (b := false) hb5_16 cN).mono ?_); rintro e wx ⟨rfl, rfl⟩))
    have q0 : wr.cell? ⟨w4.heap.size, 0, none⟩ = some (.int .i64 ar.kind) := HA.gac.box.cell 0
    have q1 : wr.cell? ⟨w4.heap.size, 1, none⟩ = some (.int .i64 ar.node) := HA.gac.box.cell 1
    have q2 : wr.cell? ⟨w4.heap.size, 2, none⟩ = some (.int .i64 ar.source) := HA.gac.box.cell 2
    have q3 : wr.cell? ⟨w4.heap.size, 3, none⟩ = some (.int .i64 ar.n) := HA.gac.box.cell 3
    have q4 : wr.cell? ⟨w4.heap.size, 4, none⟩ = some (.int .i64 ar.op.kind) := HA.gac.box.cell 4
    have q5 : wr.cell? ⟨w4.heap.size, 5, none⟩ = some (.int .u64 (ar.op.n : Int)) := HA.gac.box.cell 5
    have q6 : wr.cell? ⟨w4.heap.size, 6, none⟩ = some (.string ar.op.key) := HA.gac.box.cell 6
    have q7 : wr.cell? ⟨w4.heap.size, 7, none⟩ = some (.string ar.op.til) := HA.gac.box.cell 7
    have q8 : wr.cell? ⟨w4.heap.size, 8, none⟩ = some (.string ar.op.value) := HA.gac.box.cell 8
    have q9 : wr.cell? ⟨w4.heap.size, 9, none⟩ = some (.int .i64 ar.op.level) := HA.gac.box.cell 9
    have q10 : wr.cell? ⟨w4.heap.size, 10, none⟩ = some (.int .u64 (ar.op.lsn : Int)) := HA.gac.box.cell 10
    have q11 : wr.cell? ⟨w4.heap.size, 11, none⟩ = some (.slice A ar.picks.length cA) := HA.gac.box.cell 11
    cases d <;> cases ma
    all_goals
      go_wp2_with (first
        | (go_at_call 64; refine (ldone_any b g _ _ _ HA.gac.line).mono ?_; rintro e wx ⟨rfl, rfl⟩; rw [show (!sF.2 && sF.1.isEmpty) = _ from HD.out])
        | (go_at_call 27; refine (mayact_v ar A cA _).mono ?_; rintro e wx ⟨rfl, hbx⟩; rw [HMA.out]; replace HA := HA.next hbx; replace HO := HO.kept (row := none) ⟨hbx.os, hbx.tape, hbx.output, hbx.size, fun j hj _ => hbx.block j hj⟩ (by simp); clear hbx)
        | (refine wpList_load_row rfl 39 _ rfl w4.heap.size rfl 39 _ (0, 0) _ HA.gac.box Tryz.underlying39 rfl infoAct ?_)
        | (refine wpList_store_row rfl 39 _ _ rfl w.heap.size (actCells ar (.slice A ar.picks.length cA)).toArray rfl rfl 39 _ HA.gac.res infoAct rfl (actCells_one _ _ _ _) ?_)
        | (refine wpList_store_row rfl 39 _ _ rfl w.heap.size (actCells arZero (.slice none 0 0)).toArray rfl rfl 39 _ HA.gac.res infoAct rfl (actCells_one _ _ _ _) ?_))
    all_goals
      have hrbb : w.heap.size < w4.heap.size + 2 := by omega
      first
      | (refine bodyPost_ret (results_row_tmp rfl _ _ w.heap.size 39 (actCells ar (.slice A ar.picks.length cA)).toArray (0, 0) _ rfl (HA.gac.res.set (actCells ar (.slice A ar.picks.length cA))) Tryz.underlying39 rfl infoAct) rfl ?_
         exact ⟨actRes_some (HO.kept (grownBy_setRow _ _ _) (fun i e => by injection e with e; omega)) (by omega), below_setRow HA.gac.below (Nat.le_refl _) _⟩)
      | (refine bodyPost_ret (results_row_tmp rfl _ _ w.heap.size 39 (actCells arZero (.slice none 0 0)).toArray (0, 0) _ rfl (HA.gac.res.set (actCells arZero (.slice none 0 0))) Tryz.underlying39 rfl infoAct) rfl ?_
         exact ⟨actRes_none, below_setRow HA.gac.below (Nat.le_refl _) _⟩)

set_option maxRecDepth 100000 in
set_option maxHeartbeats 16000000 in
theorem actofT_m3 (t : ByteArray) (ht : t.size ≤ 1000000) (w : World) (henv : Env w) (hmm : getI ofActL (kindOfA (hd (lineS t))) = some 3) :
    Calls Tryz.prog 25 #[.string t] w fun e w' => ActRes w w' (actOfT t) e ∧ Below w.heap.size w w' := by
  have hR0 := Blk.new w 39 (actCells arZero (.slice none 0 0))
  have hb0 : Below w.heap.size w (w.alloc (.cells (actCells arZero (.slice none 0 0)).toArray 39)) := (Below.refl _ _).alloc (Nat.le_refl _) _
  obtain ⟨x, hx⟩ : ∃ x, (lineS t).1.headD ⟨#[]⟩ = x := ⟨_, rfl⟩
  have HX := Lib.hid hx; clear hx
  obtain ⟨kd, hkd⟩ : ∃ kd, Lib.idxOfS actNames x = kd := ⟨_, rfl⟩
  have hkr : -1 ≤ kd ∧ kd < 12 := by
    have := idxFrom_range x actNames 0
    rw [← hkd]
    exact ⟨this.1, by have := this.2; simpa [actNames, Lib.idxOfS] using this⟩
  have hwk : IntKind.i64.wrap (1 + kd) = 1 + kd := by rw [IntKind.wrap_i64]; omega
  have HK := Lib.hid hkd; clear hkd
  obtain ⟨mo, hmo⟩ : ∃ mo, getI ofActL (1 + kd) = mo := ⟨_, rfl⟩
  have hv : ofActV (1 + kd) = .tuple #[.int .i64 (mo.getD 0), .bool mo.isSome] := by unfold ofActV; rw [hmo]
  have HG := Lib.hid hmo; clear hmo
  have HX0 : kindOfA (hd (lineS t)) = 1 + kd := by unfold kindOfA; rw [show hd (lineS t) = x from HX.out, HK.out]
  obtain ⟨ar, sF, hS⟩ : ∃ ar sF, actOfS (lineS t) = (ar, sF) := ⟨_, _, rfl⟩
  obtain ⟨d, hd'⟩ : ∃ d, doneS sF = d := ⟨_, rfl⟩
  obtain ⟨ma, hma⟩ : ∃ ma, mayAct ar = ma := ⟨_, rfl⟩
  have hT : actOfT t = if (mo.isSome && d) && ma then some ar else none := by
    unfold actOfT
    rw [hS, hd', hma, show kindOfA (hd (lineS t)) = 1 + kd from by unfold kindOfA; rw [show hd (lineS t) = x from HX.out, HK.out], HG.out]
  have HT := Lib.hid hT; clear hT
  have HS := Lib.hid hS; have HD := Lib.hid hd'; have HMA := Lib.hid hma
  clear hS hd' hma
  rw [HT.out]
  go_enter Tryz.func25, Tryz.ntmps25
  go_wp2_with (first
    | (go_at_call 62; refine (lineOf_any t ht _ (henv.below hb0)).mono ?_; rintro e w1 ⟨b, g, rfl, hbb, hgb, hl, hb1⟩
       have hR1 := hR0.below hb1 (by simp)
       have hB1 : Below w.heap.size w w1 := hb0.trans (hb1.mono (by simp))
       have hbb' : w.heap.size < b := by simp at hbb; omega
       have hgb' : w.heap.size < g := by simp at hgb; omega
       clear hb1 hbb hgb)
    | (go_at_call 58; refine (actNames_x _).mono ?_; rintro e w2 ⟨gn, rfl, hBn, hb2, hgn⟩
       have hl2 := hl.below hb2
       have hR2 := hR1.below hb2 hR1.lt
       have hB2 := hB1.trans (hb2.mono hB1.size)
       clear hb2)
    | (go_at_call 67; refine (lword_any b g _ _ _ hl2).mono ?_; rintro e w3 ⟨rfl, hl3, hg3⟩; rw [show (Lib.splitB _ 0 _ t).headD ⟨#[]⟩ = x from HX.out]
       obtain ⟨⟨L, hL⟩, _⟩ := hl2.blk
       have n1 := blk_ne hBn hL (by decide)
       have n2 := blk_ne hR2 hL (by decide)
       have hBn3 := hBn.grown hg3 (fun e => by injection e with e; exact n1 e)
       have hR3 := hR2.grown hg3 (fun e => by injection e with e; exact n2 e)
       have hB3 : Below w.heap.size w w3 := hB2.grown hg3 hB2.size (fun i e => by injection e with e; omega)
       clear hg3)
    | (go_at_call 66; refine (Tryz.slices_Index_string gn 0 12 12 actNames x _ (by decide) (by omega) ?hc).mono ?_
       case hc => exact fun j hj => by rw [Nat.zero_add]; exact (hBn3.cell j).trans (actNames_get j hj)
       rintro e w4 ⟨rfl, rfl⟩; rw [show Lib.idxOfS (actNames.take 12) x = kd from HK.out]
       have hA4 := Blk.new w4 39 (actCells { arZero with kind := 1 + kd } (.slice none 0 0))
       have hB4 := hB3.alloc hB3.size (.cells (actCells { arZero with kind := 1 + kd } (.slice none 0 0)).toArray 39))
    | (go_at_call 57; refine (ofAct_any (1 + kd) _).mono ?_; rintro e w5 ⟨rfl, rfl⟩; rw [hv]))
  have hrl := hR3.lt
  have hgac : Gac w (w4.alloc (.cells (actCells { arZero with kind := 1 + kd } (.slice none 0 0)).toArray 39)) b g (adv (lineS t) false) w.heap.size w4.heap.size (actCells { arZero with kind := 1 + kd } (.slice none 0 0)) :=
    ⟨hB4, (show LineAt _ b g (adv (lineS t) false).1 (adv (lineS t) false).2 from by have := hl3.below ((Below.refl _ _).alloc (Nat.le_refl _) (.cells (actCells { arZero with kind := 1 + kd } (.slice none 0 0)).toArray 39)); simpa [adv, lineS] using this), hR3.alloc _, hA4, Nat.le_of_lt hbb', Nat.le_of_lt hgb', Nat.le_refl _, hB3.size, by omega⟩
  obtain ⟨s1, hs1⟩ : ∃ s1, adv (lineS t) false = s1 := ⟨_, rfl⟩
  have HS1 := Lib.hid hs1
  rw [hs1] at hgac
  clear hs1
  have hN : ∀ m : Int, Gacn w ((w4.alloc (.cells (actCells { arZero with kind := 1 + kd } (.slice none 0 0)).toArray 39)).alloc (.cells #[.int .i64 m] 3)) b g s1 w.heap.size w4.heap.size (actCells { arZero with kind := 1 + kd } (.slice none 0 0)) m (w4.heap.size + 1) := fun m =>
    ⟨hgac.alloc _, (by have := Blk.new (w4.alloc (.cells (actCells { arZero with kind := 1 + kd } (.slice none 0 0)).toArray 39)) 3 [.int .i64 m]; rw [World.size_alloc] at this; exact this), by omega⟩
  have hAr : ∀ m : Int, mo.getD 0 = m → actOfM m ({ arZero with kind := 1 + kd }, s1) = (ar, sF) := by
    intro m hm
    rw [← HS.out]
    unfold actOfS
    rw [show kindOfA (hd (lineS t)) = 1 + kd from by unfold kindOfA; rw [show hd (lineS t) = x from HX.out, HK.out], HG.out, HS1.out, hm]
  have HAr := Lib.hid hAr; clear hAr
  obtain ⟨rb, hrb⟩ : ∃ rb, w.heap.size = rb := ⟨_, rfl⟩
  have HN := Lib.hid hN; clear hN
  have hbl := hl3.lt
  clear hgac hA4 hB4 hR3 hB3 hBn3 hl3 hR2 hB2 hl2 hBn hgn hR1 hB1 hl hb0 hR0 hwk hrl n1 n2 hL hrb
  have hmo2 : mo = some 3 := by rw [← HG.out, ← hmm, HX0]
  clear hmm HX0
  subst hmo2
  have HA := HN.out 3
  clear HN
  obtain ⟨W0, hW0⟩ : ∃ W0, (w4.alloc (.cells (actCells { arZero with kind := 1 + kd } (.slice none 0 0)).toArray 39)).alloc (.cells #[.int .i64 3] 3) = W0 := ⟨_, rfl⟩
  have cN : W0.cell? ⟨w4.heap.size + 1, 0, none⟩ = some (.int .i64 3) := by rw [← hW0]; exact HA.nam.cell 0
  change Calls _ _ _ ((w4.alloc (.cells (actCells { arZero with kind := 1 + kd } (.slice none 0 0)).toArray 39)).alloc (.cells #[.int .i64 3] 3)) _
  rw [hW0] at HA ⊢
  clear hW0
  go_wp2_with (first
    | (go_at_call 68; ((with_reducible refine (hasA_at (f := 1) (b := true) hb3_1 cN).mono ?_); rintro e wx ⟨rfl, rfl⟩))
    | (go_at_call 68; ((with_reducible refine (hasA_at (f := 2) (b := true) hb3_2 cN).mono ?_); rintro e wx ⟨rfl, rfl⟩))
    | (go_at_call 68; ((with_reducible refine (hasA_at (f := 4) (b := false) hb3_4 cN).mono ?_); rintro e wx ⟨rfl, rfl⟩))
    | (go_at_call 68; ((with_reducible refine (hasA_at (f := 8) (b := false) hb3_8 cN).mono ?_); rintro e wx ⟨rfl, rfl⟩))
    | (go_at_call 69; ((with_reducible refine (lint_x b g (s1) _ HA.gac.line (fun _ k => HA.gac.env henv k)).mono ?_); rintro e wx ⟨r1, d1, hr1, rfl, hlx, hgx⟩; replace HA := HA.took (s' := adv (s1) d1) hlx hgx; clear hlx hgx cN; have HR1 := Lib.hid hr1; clear hr1; have cF1 : wx.cell? ⟨w4.heap.size, 1, none⟩ = some (.int .i64 0) := HA.gac.box.cell 1; have fF1 := HA.gac.box.frozen 1; replace HA := HA.field 1 (.int .i64 r1) (actCells { arZero with kind := 1 + kd, node := r1 } (.slice none 0 0)) (by simp [actCells]) rfl; have cN := HA.nam.cell 0))
    | (go_at_call 69; ((with_reducible refine (lint_x b g (adv (s1) d1) _ HA.gac.line (fun _ k => HA.gac.env henv k)).mono ?_); rintro e wx ⟨r2, d2, hr2, rfl, hlx, hgx⟩; replace HA := HA.took (s' := adv (adv (s1) d1) d2) hlx hgx; clear hlx hgx cN; have HR2 := Lib.hid hr2; clear hr2; have cF2 : wx.cell? ⟨w4.heap.size, 2, none⟩ = some (.int .i64 0) := HA.gac.box.cell 2; have fF2 := HA.gac.box.frozen 2; replace HA := HA.field 2 (.int .i64 r2) (actCells { arZero with kind := 1 + kd, node := r1, source := r2 } (.slice none 0 0)) (by simp [actCells]) rfl; have cN := HA.nam.cell 0)))
  go_loopg [66] 0 (fun gh _ wr => gh = 0 ∧ Gacn w wr b g (adv (adv (s1) d1) d2) w.heap.size w4.heap.size (actCells { arZero with kind := 1 + kd, node := r1, source := r2 } (.slice none 0 0)) 3 (w4.heap.size + 1))
  case atStart => exact ⟨rfl, HA⟩
  case round =>
    obtain ⟨_, HA⟩ := hrel
    have cN : wr.cell? ⟨w4.heap.size + 1, 0, none⟩ = some (.int .i64 3) := HA.nam.cell 0
    have hfin : ({ arZero with kind := 1 + kd, node := r1, source := r2 }, adv (adv (s1) d1) d2) = (ar, sF) := by
      rw [← HAr.out 3 rfl]
      simp [actOfM, sa1, sa2, sa4, sa8, sa16, hb3_1, hb3_2, hb3_4, hb3_8, hb3_16, HR1.out, HR2.out]
    obtain ⟨har, hsF⟩ := Prod.mk.inj hfin
    rw [har, hsF] at HA
    have hpk : ar.picks = [] := by rw [← har]; rfl
    obtain ⟨A, cA, hpv⟩ : ∃ A cA, Value.slice none 0 0 = .slice A ar.picks.length cA := ⟨none, 0, by rw [hpk]; rfl⟩
    have HO : OwnI wr (w4.heap.size + 2) (.slice A ar.picks.length cA) ar.picks := by rw [← hpv, hpk]; exact OwnI.nil _ _
    rw [hpv] at HA
    clear har hsF hfin hpk hpv
    go_wp2_with (go_at_call 68; ((with_reducible refine (hasA_at (f := 16) (b := false) hb3_16 cN).mono ?_); rintro e wx ⟨rfl, rfl⟩))
    have q0 : wr.cell? ⟨w4.heap.size, 0, none⟩ = some (.int .i64 ar.kind) := HA.gac.box.cell 0
    have q1 : wr.cell? ⟨w4.heap.size, 1, none⟩ = some (.int .i64 ar.node) := HA.gac.box.cell 1
    have q2 : wr.cell? ⟨w4.heap.size, 2, none⟩ = some (.int .i64 ar.source) := HA.gac.box.cell 2
    have q3 : wr.cell? ⟨w4.heap.size, 3, none⟩ = some (.int .i64 ar.n) := HA.gac.box.cell 3
    have q4 : wr.cell? ⟨w4.heap.size, 4, none⟩ = some (.int .i64 ar.op.kind) := HA.gac.box.cell 4
    have q5 : wr.cell? ⟨w4.heap.size, 5, none⟩ = some (.int .u64 (ar.op.n : Int)) := HA.gac.box.cell 5
    have q6 : wr.cell? ⟨w4.heap.size, 6, none⟩ = some (.string ar.op.key) := HA.gac.box.cell 6
    have q7 : wr.cell? ⟨w4.heap.size, 7, none⟩ = some (.string ar.op.til) := HA.gac.box.cell 7
    have q8 : wr.cell? ⟨w4.heap.size, 8, none⟩ = some (.string ar.op.value) := HA.gac.box.cell 8
    have q9 : wr.cell? ⟨w4.heap.size, 9, none⟩ = some (.int .i64 ar.op.level) := HA.gac.box.cell 9
    have q10 : wr.cell? ⟨w4.heap.size, 10, none⟩ = some (.int .u64 (ar.op.lsn : Int)) := HA.gac.box.cell 10
    have q11 : wr.cell? ⟨w4.heap.size, 11, none⟩ = some (.slice A ar.picks.length cA) := HA.gac.box.cell 11
    cases d <;> cases ma
    all_goals
      go_wp2_with (first
        | (go_at_call 64; refine (ldone_any b g _ _ _ HA.gac.line).mono ?_; rintro e wx ⟨rfl, rfl⟩; rw [show (!sF.2 && sF.1.isEmpty) = _ from HD.out])
        | (go_at_call 27; refine (mayact_v ar A cA _).mono ?_; rintro e wx ⟨rfl, hbx⟩; rw [HMA.out]; replace HA := HA.next hbx; replace HO := HO.kept (row := none) ⟨hbx.os, hbx.tape, hbx.output, hbx.size, fun j hj _ => hbx.block j hj⟩ (by simp); clear hbx)
        | (refine wpList_load_row rfl 39 _ rfl w4.heap.size rfl 39 _ (0, 0) _ HA.gac.box Tryz.underlying39 rfl infoAct ?_)
        | (refine wpList_store_row rfl 39 _ _ rfl w.heap.size (actCells ar (.slice A ar.picks.length cA)).toArray rfl rfl 39 _ HA.gac.res infoAct rfl (actCells_one _ _ _ _) ?_)
        | (refine wpList_store_row rfl 39 _ _ rfl w.heap.size (actCells arZero (.slice none 0 0)).toArray rfl rfl 39 _ HA.gac.res infoAct rfl (actCells_one _ _ _ _) ?_))
    all_goals
      have hrbb : w.heap.size < w4.heap.size + 2 := by omega
      first
      | (refine bodyPost_ret (results_row_tmp rfl _ _ w.heap.size 39 (actCells ar (.slice A ar.picks.length cA)).toArray (0, 0) _ rfl (HA.gac.res.set (actCells ar (.slice A ar.picks.length cA))) Tryz.underlying39 rfl infoAct) rfl ?_
         exact ⟨actRes_some (HO.kept (grownBy_setRow _ _ _) (fun i e => by injection e with e; omega)) (by omega), below_setRow HA.gac.below (Nat.le_refl _) _⟩)
      | (refine bodyPost_ret (results_row_tmp rfl _ _ w.heap.size 39 (actCells arZero (.slice none 0 0)).toArray (0, 0) _ rfl (HA.gac.res.set (actCells arZero (.slice none 0 0))) Tryz.underlying39 rfl infoAct) rfl ?_
         exact ⟨actRes_none, below_setRow HA.gac.below (Nat.le_refl _) _⟩)
end Go.Proofs.YtgplaeopcejmoaaGreatDoor
