/- The walk of ActOf: one mask of fields. -/
import Derived.Test.YtgplaeopcejmoaaGreatDoorActofb
namespace Go.Proofs.YtgplaeopcejmoaaGreatDoor
open Go.RowKit Go.Shelf

set_option maxRecDepth 100000 in
set_option maxHeartbeats 16000000 in
theorem actofT_m17 (t : ByteArray) (ht : t.size ≤ 1000000) (w : World) (henv : Env w) (hmm : getI ofActL (kindOfA (hd (lineS t))) = some 17) :
    Calls Tryz.prog 25 #[.string t] w fun e w' => ActRes w w' (actOfT t) e ∧ Below w.heap.size w w' := by
  have hR0 := Blk.new w 39 (actCells arZero (.slice none 0 0))
  have hb0 : Below w.heap.size w (w.alloc (.cells (actCells arZero (.slice none 0 0)).toArray 39)) := (Below.refl _ _).alloc (Nat.le_refl _) _
  obtain ⟨x, hx⟩ : ∃ x, (lineS t).1.headD ⟨#[]⟩ = x := ⟨_, rfl⟩
  have HX := Lib.hid hx; clear hx
  obtain ⟨kd, hkd⟩ : ∃ kd, Lib.idxOfS actNames x = kd := ⟨_, rfl⟩
  have hkr : -1 ≤ kd ∧ kd < 12 := by
    have := idxFrom_range x actNames 0
    rw [← hkd]
    exact ⟨this.1, by have := this.2; simpa [actNames, Lib.idxOfS] using this⟩
  have hwk : IntKind.i64.wrap (1 + kd) = 1 + kd := by rw [IntKind.wrap_i64]; omega
  have HK := Lib.hid hkd; clear hkd
  obtain ⟨mo, hmo⟩ : ∃ mo, getI ofActL (1 + kd) = mo := ⟨_, rfl⟩
  have hv : ofActV (1 + kd) = .tuple #[.int .i64 (mo.getD 0), .bool mo.isSome] := by unfold ofActV; rw [hmo]
  have HG := Lib.hid hmo; clear hmo
  have HX0 : kindOfA (hd (lineS t)) = 1 + kd := by unfold kindOfA; rw [show hd (lineS t) = x from HX.out, HK.out]
  obtain ⟨ar, sF, hS⟩ : ∃ ar sF, actOfS (lineS t) = (ar, sF) := ⟨_, _, rfl⟩
  obtain ⟨d, hd'⟩ : ∃ d, doneS sF = d := ⟨_, rfl⟩
  obtain ⟨ma, hma⟩ : ∃ ma, mayAct ar = ma := ⟨_, rfl⟩
  have hT : actOfT t = if (mo.isSome && d) && ma then some ar else none := by
    unfold actOfT
    rw [hS, hd', hma, show kindOfA (hd (lineS t)) = 1 + kd from by unfold kindOfA; rw [show hd (lineS t) = x from HX.out, HK.out], HG.out]
  have HT := Lib.hid hT; clear hT
  have HS := Lib.hid hS; have HD := Lib.hid hd'; have HMA := Lib.hid hma
  clear hS hd' hma
  rw [HT.out]
  go_enter Tryz.func25, Tryz.ntmps25
  go_wp2_with (first
    | (go_at_call 62; refine (lineOf_any t ht _ (henv.below hb0)).mono ?_; rintro e w1 ⟨b, g, rfl, hbb, hgb, hl, hb1⟩
       have hR1 := hR0.below hb1 (by simp)
       have hB1 : Below w.heap.size w w1 := hb0.trans (hb1.mono (by simp))
       have hbb' : w.heap.size < b := by simp at hbb; omega
       have hgb' : w.heap.size < g := by simp at hgb; omega
       clear hb1 hbb hgb)
    | (go_at_call 58; refine (actNames_x _).mono ?_; rintro e w2 ⟨gn, rfl, hBn, hb2, hgn⟩
       have hl2 := hl.below hb2
       have hR2 := hR1.below hb2 hR1.lt
       have hB2 := hB1.trans (hb2.mono hB1.size)
       clear hb2)
    | (go_at_call 67; refine (lword_any b g _ _ _ hl2).mono ?_; rintro e w3 ⟨rfl, hl3, hg3⟩; rw [show (Lib.splitB _ 0 _ t).headD ⟨#[]⟩ = x from HX.out]
       obtain ⟨⟨L, hL⟩, _⟩ := hl2.blk
       have n1 := blk_ne hBn hL (by decide)
       have n2 := blk_ne hR2 hL (by decide)
       have hBn3 := hBn.grown hg3 (fun e => by injection e with e; exact n1 e)
       have hR3 := hR2.grown hg3 (fun e => by injection e with e; exact n2 e)
       have hB3 : Below w.heap.size w w3 := hB2.grown hg3 hB2.size (fun i e => by injection e with e; omega)
       clear hg3)
    | (go_at_call 66; refine (Tryz.slices_Index_string gn 0 12 12 actNames x _ (by decide) (by omega) ?hc).mono ?_
       case hc => exact fun j hj => by rw [Nat.zero_add]; exact (hBn3.cell j).trans (actNames_get j hj)
       rintro e w4 ⟨rfl, rfl⟩; rw [show Lib.idxOfS (actNames.take 12) x = kd from HK.out]
       have hA4 := Blk.new w4 39 (actCells { arZero with kind := 1 + kd } (.slice none 0 0))
       have hB4 := hB3.alloc hB3.size (.cells (actCells { arZero with kind := 1 + kd } (.slice none 0 0)).toArray 39))
    | (go_at_call 57; refine (ofAct_any (1 + kd) _).mono ?_; rintro e w5 ⟨rfl, rfl⟩; rw [hv]))
  have hrl := hR3.lt
  have hgac : Gac w (w4.alloc (.cells (actCells { arZero with kind := 1 + kd } (.slice none 0 0)).toArray 39)) b g (adv (lineS t) false) w.heap.size w4.heap.size (actCells { arZero with kind := 1 + kd } (.slice none 0 0)) :=
    ⟨hB4, (show LineAt _ b g (adv (lineS t) false).1 (adv (lineS t) false).2 from by have := hl3.below ((Below.refl _ _).alloc (Nat.le_refl _) (.cells (actCells { arZero with kind := 1 + kd } (.slice none 0 0)).toArray 39)); simpa [adv, lineS] using this), hR3.alloc _, hA4, Nat.le_of_lt hbb', Nat.le_of_lt hgb', Nat.le_refl _, hB3.size, by omega⟩
  obtain ⟨s1, hs1⟩ : ∃ s1, adv (lineS t) false = s1 := ⟨_, rfl⟩
  have HS1 := Lib.hid hs1
  rw [hs1] at hgac
  clear hs1
  have hN : ∀ m : Int, Gacn w ((w4.alloc (.cells (actCells { arZero with kind := 1 + kd } (.slice none 0 0)).toArray 39)).alloc (.cells #[.int .i64 m] 3)) b g s1 w.heap.size w4.heap.size (actCells { arZero with kind := 1 + kd } (.slice none 0 0)) m (w4.heap.size + 1) := fun m =>
    ⟨hgac.alloc _, (by have := Blk.new (w4.alloc (.cells (actCells { arZero with kind := 1 + kd } (.slice none 0 0)).toArray 39)) 3 [.int .i64 m]; rw [World.size_alloc] at this; exact this), by omega⟩
  have hAr : ∀ m : Int, mo.getD 0 = m → actOfM m ({ arZero with kind := 1 + kd }, s1) = (ar, sF) := by
    intro m hm
    rw [← HS.out]
    unfold actOfS
    rw [show kindOfA (hd (lineS t)) = 1 + kd from by unfold kindOfA; rw [show hd (lineS t) = x from HX.out, HK.out], HG.out, HS1.out, hm]
  have HAr := Lib.hid hAr; clear hAr
  obtain ⟨rb, hrb⟩ : ∃ rb, w.heap.size = rb := ⟨_, rfl⟩
  have HN := Lib.hid hN; clear hN
  have hbl := hl3.lt
  clear hgac hA4 hB4 hR3 hB3 hBn3 hl3 hR2 hB2 hl2 hBn hgn hR1 hB1 hl hb0 hR0 hwk hrl n1 n2 hL hrb
  have hmo2 : mo = some 17 := by rw [← HG.out, ← hmm, HX0]
  clear hmm HX0
  subst hmo2
  have HA := HN.out 17
  clear HN
  obtain ⟨W0, hW0⟩ : ∃ W0, (w4.alloc (.cells (actCells { arZero with kind := 1 + kd } (.slice none 0 0)).toArray 39)).alloc (.cells #[.int .i64 17] 3) = W0 := ⟨_, rfl⟩
  have cN : W0.cell? ⟨w4.heap.size + 1, 0, none⟩ = some (.int .i64 17) := by rw [← hW0]; exact HA.nam.cell 0
  change Calls _ _ _ ((w4.alloc (.cells (actCells { arZero with kind := 1 + kd } (.slice none 0 0)).toArray 39)).alloc (.cells #[.int .i64 17] 3)) _
  rw [hW0] at HA ⊢
  clear hW0
  go_wp2_with (first
    | (go_at_call 68; ((with_reducible refine (hasA_at (f := 1) (b := true) hb17_1 cN).mono ?_); rintro e wx ⟨rfl, rfl⟩))
    | (go_at_call 68; ((with_reducible refine (hasA_at (f := 2) (b := false) hb17_2 cN).mono ?_); rintro e wx ⟨rfl, rfl⟩))
    | (go_at_call 68; ((with_reducible refine (hasA_at (f := 4) (b := false) hb17_4 cN).mono ?_); rintro e wx ⟨rfl, rfl⟩))
    | (go_at_call 68; ((with_reducible refine (hasA_at (f := 8) (b := false) hb17_8 cN).mono ?_); rintro e wx ⟨rfl, rfl⟩))
    | (go_at_call 69; ((with_reducible refine (lint_x b g (s1) _ HA.gac.line (fun _ k => HA.gac.env henv k)).mono ?_); rintro e wx ⟨r1, d1, hr1, rfl, hlx, hgx⟩; replace HA := HA.took (s' := adv (s1) d1) hlx hgx; clear hlx hgx cN; have HR1 := Lib.hid hr1; clear hr1; have cF1 : wx.cell? ⟨w4.heap.size, 1, none⟩ = some (.int .i64 0) := HA.gac.box.cell 1; have fF1 := HA.gac.box.frozen 1; replace HA := HA.field 1 (.int .i64 r1) (actCells { arZero with kind := 1 + kd, node := r1 } (.slice none 0 0)) (by simp [actCells]) rfl; have cN := HA.nam.cell 0)))
  have hbase : w.heap.size < w4.heap.size + 2 := by omega
  go_loopg [66] (adv (s1) d1).1.length (fun gh _ wr => ∃ (s : LS) (acc : List Int) (pv : Value), gh = s.1.length ∧ Gacn w wr b g s w.heap.size w4.heap.size (actCells { arZero with kind := 1 + kd, node := r1, picks := acc } pv) 17 (w4.heap.size + 1) ∧ OwnI wr (w4.heap.size + 2) pv acc ∧ acc.length ≤ 513 ∧ takePicks s.1 s.2 acc = takePicks (adv (s1) d1).1 (adv (s1) d1).2 [])
  case atStart => exact ⟨_, [], _, rfl, HA, OwnI.nil _ _, by simp, rfl⟩
  case round =>
    obtain ⟨s, acc, pv, rfl, HA, HO, hal, hR⟩ := hrel
    have cN : wr.cell? ⟨w4.heap.size + 1, 0, none⟩ = some (.int .i64 17) := HA.nam.cell 0
    have cW : wr.cell? ⟨b, 1, none⟩ = some (.bool s.2) := HA.gac.line.wrong
    obtain ⟨A, cA, hpv⟩ := HO.any
    have c11 : wr.cell? ⟨w4.heap.size, 11, none⟩ = some pv := HA.gac.box.cell 11
    obtain ⟨⟨all, al, ol, cl, hbk, _, _, _, _, _⟩, _⟩ := HA.gac.line
    have cL : wr.cell? ⟨b, 0, none⟩ = some (.slice al s.1.length cl) := hbk.cell 0
    obtain ⟨ws, wrong⟩ := s
    simp only at cW cL hR
    cases wrong with
    | true =>
      subst hpv
      have hstop := takePicks_stop (ws := ws) (wr := true) (acc := acc) (.inl rfl)
      rw [hstop] at hR
      have hfin : ({ arZero with kind := 1 + kd, node := r1, picks := acc }, ((ws, true) : LS)) = (ar, sF) := by
        rw [← HAr.out 17 rfl]
        simp [actOfM, sa1, sa2, sa4, sa8, sa16, hb17_1, hb17_2, hb17_4, hb17_8, hb17_16, HR1.out, ← hR]
      obtain ⟨har, hsF⟩ := Prod.mk.inj hfin
      rw [har, hsF] at HA
      have hpk : acc = ar.picks := by rw [← har]
      subst hpk
      clear har hsF hfin hR hstop
      have q0 : wr.cell? ⟨w4.heap.size, 0, none⟩ = some (.int .i64 ar.kind) := HA.gac.box.cell 0
      have q1 : wr.cell? ⟨w4.heap.size, 1, none⟩ = some (.int .i64 ar.node) := HA.gac.box.cell 1
      have q2 : wr.cell? ⟨w4.heap.size, 2, none⟩ = some (.int .i64 ar.source) := HA.gac.box.cell 2
      have q3 : wr.cell? ⟨w4.heap.size, 3, none⟩ = some (.int .i64 ar.n) := HA.gac.box.cell 3
      have q4 : wr.cell? ⟨w4.heap.size, 4, none⟩ = some (.int .i64 ar.op.kind) := HA.gac.box.cell 4
      have q5 : wr.cell? ⟨w4.heap.size, 5, none⟩ = some (.int .u64 (ar.op.n : Int)) := HA.gac.box.cell 5
      have q6 : wr.cell? ⟨w4.heap.size, 6, none⟩ = some (.string ar.op.key) := HA.gac.box.cell 6
      have q7 : wr.cell? ⟨w4.heap.size, 7, none⟩ = some (.string ar.op.til) := HA.gac.box.cell 7
      have q8 : wr.cell? ⟨w4.heap.size, 8, none⟩ = some (.string ar.op.value) := HA.gac.box.cell 8
      have q9 : wr.cell? ⟨w4.heap.size, 9, none⟩ = some (.int .i64 ar.op.level) := HA.gac.box.cell 9
      have q10 : wr.cell? ⟨w4.heap.size, 10, none⟩ = some (.int .u64 (ar.op.lsn : Int)) := HA.gac.box.cell 10
      have q11 : wr.cell? ⟨w4.heap.size, 11, none⟩ = some (.slice A ar.picks.length cA) := HA.gac.box.cell 11
      cases d <;> cases ma
      all_goals
        go_wp2_with (first
          | (go_at_call 68; ((with_reducible refine (hasA_at (f := 16) (b := true) hb17_16 cN).mono ?_); rintro e wx ⟨rfl, rfl⟩))
          | (go_at_call 64; refine (ldone_any b g _ _ _ HA.gac.line).mono ?_; rintro e wx ⟨rfl, rfl⟩; rw [show (!sF.2 && sF.1.isEmpty) = _ from HD.out])
          | (go_at_call 27; refine (mayact_v ar A cA _).mono ?_; rintro e wx ⟨rfl, hbx⟩; rw [HMA.out]; replace HA := HA.next hbx; replace HO := HO.kept (row := none) ⟨hbx.os, hbx.tape, hbx.output, hbx.size, fun j hj _ => hbx.block j hj⟩ (by simp); clear hbx)
          | (refine wpList_load_row rfl 39 _ rfl w4.heap.size rfl 39 _ (0, 0) _ HA.gac.box Tryz.underlying39 rfl infoAct ?_)
          | (refine wpList_store_row rfl 39 _ _ rfl w.heap.size (actCells ar (.slice A ar.picks.length cA)).toArray rfl rfl 39 _ HA.gac.res infoAct rfl (actCells_one _ _ _ _) ?_)
          | (refine wpList_store_row rfl 39 _ _ rfl w.heap.size (actCells arZero (.slice none 0 0)).toArray rfl rfl 39 _ HA.gac.res infoAct rfl (actCells_one _ _ _ _) ?_))
      all_goals
        have hrbb : w.heap.size < w4.heap.size + 2 := by omega
        first
        | (refine bodyPost_ret (results_row_tmp rfl _ _ w.heap.size 39 (actCells ar (.slice A ar.picks.length cA)).toArray (0, 0) _ rfl (HA.gac.res.set (actCells ar (.slice A ar.picks.length cA))) Tryz.underlying39 rfl infoAct) rfl ?_
           exact ⟨actRes_some (HO.kept (grownBy_setRow _ _ _) (fun i e => by injection e with e; omega)) (by omega), below_setRow HA.gac.below (Nat.le_refl _) _⟩)
        | (refine bodyPost_ret (results_row_tmp rfl _ _ w.heap.size 39 (actCells arZero (.slice none 0 0)).toArray (0, 0) _ rfl (HA.gac.res.set (actCells arZero (.slice none 0 0))) Tryz.underlying39 rfl infoAct) rfl ?_
           exact ⟨actRes_none, below_setRow HA.gac.below (Nat.le_refl _) _⟩)
  
    | false =>
      cases ws with
      | nil =>
        subst hpv
        have hstop := takePicks_stop (ws := []) (wr := false) (acc := acc) (.inr (.inl rfl))
        rw [hstop] at hR
        have hfin : ({ arZero with kind := 1 + kd, node := r1, picks := acc }, (([], false) : LS)) = (ar, sF) := by
          rw [← HAr.out 17 rfl]
          simp [actOfM, sa1, sa2, sa4, sa8, sa16, hb17_1, hb17_2, hb17_4, hb17_8, hb17_16, HR1.out, ← hR]
        obtain ⟨har, hsF⟩ := Prod.mk.inj hfin
        rw [har, hsF] at HA
        have hpk : acc = ar.picks := by rw [← har]
        subst hpk
        clear har hsF hfin hR hstop
        have q0 : wr.cell? ⟨w4.heap.size, 0, none⟩ = some (.int .i64 ar.kind) := HA.gac.box.cell 0
        have q1 : wr.cell? ⟨w4.heap.size, 1, none⟩ = some (.int .i64 ar.node) := HA.gac.box.cell 1
        have q2 : wr.cell? ⟨w4.heap.size, 2, none⟩ = some (.int .i64 ar.source) := HA.gac.box.cell 2
        have q3 : wr.cell? ⟨w4.heap.size, 3, none⟩ = some (.int .i64 ar.n) := HA.gac.box.cell 3
        have q4 : wr.cell? ⟨w4.heap.size, 4, none⟩ = some (.int .i64 ar.op.kind) := HA.gac.box.cell 4
        have q5 : wr.cell? ⟨w4.heap.size, 5, none⟩ = some (.int .u64 (ar.op.n : Int)) := HA.gac.box.cell 5
        have q6 : wr.cell? ⟨w4.heap.size, 6, none⟩ = some (.string ar.op.key) := HA.gac.box.cell 6
        have q7 : wr.cell? ⟨w4.heap.size, 7, none⟩ = some (.string ar.op.til) := HA.gac.box.cell 7
        have q8 : wr.cell? ⟨w4.heap.size, 8, none⟩ = some (.string ar.op.value) := HA.gac.box.cell 8
        have q9 : wr.cell? ⟨w4.heap.size, 9, none⟩ = some (.int .i64 ar.op.level) := HA.gac.box.cell 9
        have q10 : wr.cell? ⟨w4.heap.size, 10, none⟩ = some (.int .u64 (ar.op.lsn : Int)) := HA.gac.box.cell 10
        have q11 : wr.cell? ⟨w4.heap.size, 11, none⟩ = some (.slice A ar.picks.length cA) := HA.gac.box.cell 11
        cases d <;> cases ma
        all_goals
          go_wp2_with (first
            | (go_at_call 68; ((with_reducible refine (hasA_at (f := 16) (b := true) hb17_16 cN).mono ?_); rintro e wx ⟨rfl, rfl⟩))
            | (go_at_call 64; refine (ldone_any b g _ _ _ HA.gac.line).mono ?_; rintro e wx ⟨rfl, rfl⟩; rw [show (!sF.2 && sF.1.isEmpty) = _ from HD.out])
            | (go_at_call 27; refine (mayact_v ar A cA _).mono ?_; rintro e wx ⟨rfl, hbx⟩; rw [HMA.out]; replace HA := HA.next hbx; replace HO := HO.kept (row := none) ⟨hbx.os, hbx.tape, hbx.output, hbx.size, fun j hj _ => hbx.block j hj⟩ (by simp); clear hbx)
            | (refine wpList_load_row rfl 39 _ rfl w4.heap.size rfl 39 _ (0, 0) _ HA.gac.box Tryz.underlying39 rfl infoAct ?_)
            | (refine wpList_store_row rfl 39 _ _ rfl w.heap.size (actCells ar (.slice A ar.picks.length cA)).toArray rfl rfl 39 _ HA.gac.res infoAct rfl (actCells_one _ _ _ _) ?_)
            | (refine wpList_store_row rfl 39 _ _ rfl w.heap.size (actCells arZero (.slice none 0 0)).toArray rfl rfl 39 _ HA.gac.res infoAct rfl (actCells_one _ _ _ _) ?_))
        all_goals
          have hrbb : w.heap.size < w4.heap.size + 2 := by omega
          first
          | (refine bodyPost_ret (results_row_tmp rfl _ _ w.heap.size 39 (actCells ar (.slice A ar.picks.length cA)).toArray (0, 0) _ rfl (HA.gac.res.set (actCells ar (.slice A ar.picks.length cA))) Tryz.underlying39 rfl infoAct) rfl ?_
             exact ⟨actRes_some (HO.kept (grownBy_setRow _ _ _) (fun i e => by injection e with e; omega)) (by omega), below_setRow HA.gac.below (Nat.le_refl _) _⟩)
          | (refine bodyPost_ret (results_row_tmp rfl _ _ w.heap.size 39 (actCells arZero (.slice none 0 0)).toArray (0, 0) _ rfl (HA.gac.res.set (actCells arZero (.slice none 0 0))) Tryz.underlying39 rfl infoAct) rfl ?_
             exact ⟨actRes_none, below_setRow HA.gac.below (Nat.le_refl _) _⟩)
  
      | cons y ws =>
        by_cases h512 : acc.length ≤ 512
        · subst hpv
          have hcall : ∀ W, LineAt W b g (y :: ws) false → (∀ w', W.grownBy w' (some b) → Env w') → Calls Tryz.prog 69 #[.pointer (some ⟨b, 0, none⟩)] W fun e w' => ∃ v, e = .returned v ∧ (∃ (r : Int) (dd : Bool), intV y = (r, dd) ∧ v = .int .i64 r ∧ LineAt w' b g (adv (y :: ws, false) dd).1 (adv (y :: ws, false) dd).2 ∧ W.grownBy w' (some b)) :=
            fun W h1 h2 => (lint_x b g (y :: ws, false) W h1 h2).mono fun _ _ ⟨r, dd, h3, h4, h5⟩ => ⟨_, h4, r, dd, h3, rfl, h5⟩
          have hlen : ∀ r : Int, (acc ++ [r]).length = acc.length + 1 := fun r => by simp
          have hWl : w4.heap.size < wr.heap.size := HA.gac.box.lt
          have HR9 := Lib.hid hR; clear hR
          go_wp2_with (go_at_call 68; ((with_reducible refine (hasA_at (f := 16) (b := true) hb17_16 cN).mono ?_); rintro e wx ⟨rfl, rfl⟩))
          go_region_law (first
            | (refine step_call1 rfl 69 (.tmp 69) _ rfl (enters_of Tryz.func69 (by kernel_rfl) rfl) _ (by simp [Act.eval]; try rfl) (hcall _ (HA.gac.line.below ((Below.refl _ _).drew)) (fun _ k => HA.gac.env henv (grown_undrew k))) ?_
               rintro vh wh ⟨r, dd, hr, rfl, hlx, hgx⟩
               try replace hgx := grown_undrew hgx
               have HA1 := HA.took (s' := adv (y :: ws, false) dd) hlx hgx
               have HO1 := HO.kept hgx (fun i e => by injection e with e; omega)
               have c11x : wh.cell? ⟨w4.heap.size, 11, none⟩ = some (.slice A acc.length cA) := HA1.gac.box.cell 11
               have hsx : w4.heap.size + 1 < wh.heap.size := HA1.nam.lt
               have hsy : w4.heap.size < wh.heap.size := HA1.gac.box.lt
               clear hlx hgx)
            | (refine step_append_i rfl (.tmp 68) (.tmp 71) rfl (w4.heap.size + 2) (.slice A acc.length cA) acc _ 1 1 [r] (by simp [Act.eval]) (by simp [Act.eval]; rfl) (HO1.alloc _) (by omega) (by simp; omega) rfl (by omega) ?news ?_
               case news => exact news_i wh [r]
               intro v' w1n ho1 hg1
               have hsz := HO1.size
               have HA2 := (HA1.next ((Below.refl _ _).alloc (Nat.le_refl _) _)).turn hg1 (fun i e => by have := hsz i e; omega) (fun e => by have := hsz _ e.symm; omega) (fun e => by have := hsz _ e.symm; omega) (fun e => by have := hsz _ e.symm; omega) (fun e => by have := hsz _ e.symm; omega) (fun e => by have := hsz _ e.symm; omega)
               obtain ⟨g1, cap1, hv1, _, _⟩ := ho1.form (by simp)
               rw [hlen] at hv1
               subst hv1
               have c11w : w1n.cell? ⟨w4.heap.size, 11, none⟩ = some (.slice A acc.length cA) := HA2.gac.box.cell 11
               have f11w := HA2.gac.box.frozen 11
               clear hsz hg1))
          all_goals
            go_wp2
            go_roundg ws.length
            case rel =>
              have hR := HR9.out
              rw [takePicks_go y ws h512, hr] at hR
              exact ⟨adv (y :: ws, false) dd, acc ++ [r], _, rfl, HA2.field 11 _ _ (by simp [actCells]) rfl, ho1.kept (grown_setCell _ _ _ _) (fun i e => by injection e with e; omega), by simp; omega, hR⟩
            case measure => simp
        · subst hpv
          have hstop := takePicks_stop (ws := (y :: ws)) (wr := false) (acc := acc) (.inr (.inr (by omega)))
          rw [hstop] at hR
          have hfin : ({ arZero with kind := 1 + kd, node := r1, picks := acc }, (((y :: ws), false) : LS)) = (ar, sF) := by
            rw [← HAr.out 17 rfl]
            simp [actOfM, sa1, sa2, sa4, sa8, sa16, hb17_1, hb17_2, hb17_4, hb17_8, hb17_16, HR1.out, ← hR]
          obtain ⟨har, hsF⟩ := Prod.mk.inj hfin
          rw [har, hsF] at HA
          have hpk : acc = ar.picks := by rw [← har]
          subst hpk
          clear har hsF hfin hR hstop
          have q0 : wr.cell? ⟨w4.heap.size, 0, none⟩ = some (.int .i64 ar.kind) := HA.gac.box.cell 0
          have q1 : wr.cell? ⟨w4.heap.size, 1, none⟩ = some (.int .i64 ar.node) := HA.gac.box.cell 1
          have q2 : wr.cell? ⟨w4.heap.size, 2, none⟩ = some (.int .i64 ar.source) := HA.gac.box.cell 2
          have q3 : wr.cell? ⟨w4.heap.size, 3, none⟩ = some (.int .i64 ar.n) := HA.gac.box.cell 3
          have q4 : wr.cell? ⟨w4.heap.size, 4, none⟩ = some (.int .i64 ar.op.kind) := HA.gac.box.cell 4
          have q5 : wr.cell? ⟨w4.heap.size, 5, none⟩ = some (.int .u64 (ar.op.n : Int)) := HA.gac.box.cell 5
          have q6 : wr.cell? ⟨w4.heap.size, 6, none⟩ = some (.string ar.op.key) := HA.gac.box.cell 6
          have q7 : wr.cell? ⟨w4.heap.size, 7, none⟩ = some (.string ar.op.til) := HA.gac.box.cell 7
          have q8 : wr.cell? ⟨w4.heap.size, 8, none⟩ = some (.string ar.op.value) := HA.gac.box.cell 8
          have q9 : wr.cell? ⟨w4.heap.size, 9, none⟩ = some (.int .i64 ar.op.level) := HA.gac.box.cell 9
          have q10 : wr.cell? ⟨w4.heap.size, 10, none⟩ = some (.int .u64 (ar.op.lsn : Int)) := HA.gac.box.cell 10
          have q11 : wr.cell? ⟨w4.heap.size, 11, none⟩ = some (.slice A ar.picks.length cA) := HA.gac.box.cell 11
          cases d <;> cases ma
          all_goals
            go_wp2_with (first
              | (go_at_call 68; ((with_reducible refine (hasA_at (f := 16) (b := true) hb17_16 cN).mono ?_); rintro e wx ⟨rfl, rfl⟩))
              | (go_at_call 64; refine (ldone_any b g _ _ _ HA.gac.line).mono ?_; rintro e wx ⟨rfl, rfl⟩; rw [show (!sF.2 && sF.1.isEmpty) = _ from HD.out])
              | (go_at_call 27; refine (mayact_v ar A cA _).mono ?_; rintro e wx ⟨rfl, hbx⟩; rw [HMA.out]; replace HA := HA.next hbx; replace HO := HO.kept (row := none) ⟨hbx.os, hbx.tape, hbx.output, hbx.size, fun j hj _ => hbx.block j hj⟩ (by simp); clear hbx)
              | (refine wpList_load_row rfl 39 _ rfl w4.heap.size rfl 39 _ (0, 0) _ HA.gac.box Tryz.underlying39 rfl infoAct ?_)
              | (refine wpList_store_row rfl 39 _ _ rfl w.heap.size (actCells ar (.slice A ar.picks.length cA)).toArray rfl rfl 39 _ HA.gac.res infoAct rfl (actCells_one _ _ _ _) ?_)
              | (refine wpList_store_row rfl 39 _ _ rfl w.heap.size (actCells arZero (.slice none 0 0)).toArray rfl rfl 39 _ HA.gac.res infoAct rfl (actCells_one _ _ _ _) ?_))
          all_goals
            have hrbb : w.heap.size < w4.heap.size + 2 := by omega
            first
            | (refine bodyPost_ret (results_row_tmp rfl _ _ w.heap.size 39 (actCells ar (.slice A ar.picks.length cA)).toArray (0, 0) _ rfl (HA.gac.res.set (actCells ar (.slice A ar.picks.length cA))) Tryz.underlying39 rfl infoAct) rfl ?_
               exact ⟨actRes_some (HO.kept (grownBy_setRow _ _ _) (fun i e => by injection e with e; omega)) (by omega), below_setRow HA.gac.below (Nat.le_refl _) _⟩)
            | (refine bodyPost_ret (results_row_tmp rfl _ _ w.heap.size 39 (actCells arZero (.slice none 0 0)).toArray (0, 0) _ rfl (HA.gac.res.set (actCells arZero (.slice none 0 0))) Tryz.underlying39 rfl infoAct) rfl ?_
               exact ⟨actRes_none, below_setRow HA.gac.below (Nat.le_refl _) _⟩)
end Go.Proofs.YtgplaeopcejmoaaGreatDoor
