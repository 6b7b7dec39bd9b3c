/- The walk of MayOp. -/
import Derived.Test.YtgplaeopcejmoaaGreatDoorNamed
import Derived.Deep.DeepCutAuto
namespace Go.Proofs.YtgplaeopcejmoaaGreatDoor
open Go.RowKit

structure Opr where
  kind : Int
  n : Nat
  key : ByteArray
  til : ByteArray
  value : ByteArray
  level : Int
  lsn : Nat
def opCells (o : Opr) : List Value := [.int .i64 o.kind, .int .u64 (o.n : Int), .string o.key, .string o.til, .string o.value, .int .i64 o.level, .int .u64 (o.lsn : Int)]
def opV (o : Opr) : Value := .agg (opCells o).toArray
def hasF (m f : Int) : Bool := bits .and .i64 m f != 0
def mayW (m : Int) (o : Opr) : Bool :=
  (hasF m 1 || o.n == 0) && (hasF m 2 || o.lsn == 0) && (hasF m 4 || o.key.toList.isEmpty) && (hasF m 8 || o.til.toList.isEmpty) && (hasF m 16 || o.value.toList.isEmpty) && (hasF m 32 || o.level == 0) &&
      decide (o.key.size ≤ 512) && decide (o.til.size ≤ 512) && decide (o.value.size ≤ 512)
def mayOp (o : Opr) : Bool := match getI namedL o.kind with
  | none => false
  | some m => mayW m o
theorem mayOp_some {o : Opr} {m : Int} (h : getI namedL o.kind = some m) : mayOp o = mayW m o := by unfold mayOp; rw [h]
theorem mayOp_none {o : Opr} (h : getI namedL o.kind = none) : mayOp o = false := by unfold mayOp; rw [h]

theorem h0_1 : hasF 0 1 = false := by decide
theorem h0_2 : hasF 0 2 = false := by decide
theorem h0_4 : hasF 0 4 = false := by decide
theorem h0_8 : hasF 0 8 = false := by decide
theorem h0_16 : hasF 0 16 = false := by decide
theorem h0_32 : hasF 0 32 = false := by decide
theorem h5_1 : hasF 5 1 = true := by decide
theorem h5_2 : hasF 5 2 = false := by decide
theorem h5_4 : hasF 5 4 = true := by decide
theorem h5_8 : hasF 5 8 = false := by decide
theorem h5_16 : hasF 5 16 = false := by decide
theorem h5_32 : hasF 5 32 = false := by decide
theorem h13_1 : hasF 13 1 = true := by decide
theorem h13_2 : hasF 13 2 = false := by decide
theorem h13_4 : hasF 13 4 = true := by decide
theorem h13_8 : hasF 13 8 = true := by decide
theorem h13_16 : hasF 13 16 = false := by decide
theorem h13_32 : hasF 13 32 = false := by decide
theorem h21_1 : hasF 21 1 = true := by decide
theorem h21_2 : hasF 21 2 = false := by decide
theorem h21_4 : hasF 21 4 = true := by decide
theorem h21_8 : hasF 21 8 = false := by decide
theorem h21_16 : hasF 21 16 = true := by decide
theorem h21_32 : hasF 21 32 = false := by decide
theorem h1_1 : hasF 1 1 = true := by decide
theorem h1_2 : hasF 1 2 = false := by decide
theorem h1_4 : hasF 1 4 = false := by decide
theorem h1_8 : hasF 1 8 = false := by decide
theorem h1_16 : hasF 1 16 = false := by decide
theorem h1_32 : hasF 1 32 = false := by decide
theorem h33_1 : hasF 33 1 = true := by decide
theorem h33_2 : hasF 33 2 = false := by decide
theorem h33_4 : hasF 33 4 = false := by decide
theorem h33_8 : hasF 33 8 = false := by decide
theorem h33_16 : hasF 33 16 = false := by decide
theorem h33_32 : hasF 33 32 = true := by decide
theorem h34_1 : hasF 34 1 = false := by decide
theorem h34_2 : hasF 34 2 = true := by decide
theorem h34_4 : hasF 34 4 = false := by decide
theorem h34_8 : hasF 34 8 = false := by decide
theorem h34_16 : hasF 34 16 = false := by decide
theorem h34_32 : hasF 34 32 = true := by decide
theorem lacks_any (p : Addr) (m f : Int) (w : World) (hc : w.cell? p = some (.int .i64 m)) :
    Calls Tryz.prog 60 #[.int .i64 f, .pointer (some p)] w fun e w' => e = .returned (.bool (bits .and .i64 m f == 0)) ∧ w = w' := by
  go_enter Tryz.func60, Tryz.ntmps60
  go_wp2
  go_ret
  exact ⟨rfl, rfl⟩

/-- what the operation's first lines leave: the names in a cell, the operation in a block -/
def Started (w wx : World) (o : Opr) (m : Int) (p : Value) : Prop :=
  ∃ nb, p = .pointer (some ⟨nb, 0, none⟩) ∧ wx.cell? ⟨nb, 0, none⟩ = some (.int .i64 m) ∧ Blk wx w.heap.size 34 (opCells o) ∧ Below w.heap.size w wx

theorem lacks_at {p : Addr} {m f : Int} {b : Bool} (hb : (bits .and .i64 m f == 0) = b) {w : World} (hc : w.cell? p = some (.int .i64 m)) :
    Calls Tryz.prog 60 #[.int .i64 f, .pointer (some p)] w fun e w' => e = .returned (.bool b) ∧ w = w' := hb ▸ lacks_any p m f w hc
theorem getI_mem {k m : Int} : ∀ {l : List (Int × Int)}, getI l k = some m → (k, m) ∈ l
  | [], h => by cases h
  | p :: l, h => by
    unfold getI at h
    split at h
    · rename_i hk
      injection h with h
      obtain ⟨a, b⟩ := p
      simp only at hk h
      subst hk h
      exact .head _
    · exact .tail _ (getI_mem h)
theorem named_mask {k m : Int} (h : getI namedL k = some m) : m = 0 ∨ m = 5 ∨ m = 13 ∨ m = 21 ∨ m = 1 ∨ m = 33 ∨ m = 34 := by
  have := getI_mem h
  simp only [namedL, List.mem_cons, Prod.mk.injEq, List.not_mem_nil, or_false] at this
  omega

set_option maxRecDepth 100000 in
set_option maxHeartbeats 8000000 in
theorem mayop_any (k : Int) (n : Nat) (key til value : ByteArray) (level : Int) (lsn : Nat) (w : World) :
    Calls Tryz.prog 19 #[.agg #[.int .i64 k, .int .u64 (n : Int), .string key, .string til, .string value, .int .i64 level, .int .u64 (lsn : Int)]] w fun e w' => e = .returned (.bool (mayOp ⟨k, n, key, til, value, level, lsn⟩)) ∧ Below w.heap.size w w' := by
  have hz : ∀ W, (zeroValue 3).run Tryz.prog W = .ok (.int .i64 0) W := fun W => by kernel_rfl
  have hBox := Blk.new w 34 (opCells ⟨k, n, key, til, value, level, lsn⟩)
  obtain ⟨mo, hmo⟩ : ∃ mo, getI namedL k = mo := ⟨_, rfl⟩
  have HG := Lib.hid hmo; clear hmo
  go_enter Tryz.func19, Tryz.ntmps19
  go_wp2
  go_cut [3, 4] (fun p is wx => is = .bool mo.isSome ∧ Started w wx ⟨k, n, key, til, value, level, lsn⟩ (mo.getD 0) p)
  case first =>
    cases mo with
    | none =>
      go_region_with (go_at_call 52; refine (named_any _).mono ?_; rintro e w1 ⟨g, rfl, hm, hb1⟩
                      try replace hb1 := below_undrew hb1
                      have hB1 : Blk w1 w.heap.size 34 (opCells ⟨k, n, key, til, value, level, lsn⟩) := by
                        first
                        | exact hBox.below hb1 (by simp)
                        | exact (hBox.alloc _).below hb1 (by simp; omega)
                      have hbb : Below w.heap.size w w1 := by
                        first
                        | exact ((Below.refl w.heap.size w).alloc (Nat.le_refl _) _).trans (hb1.mono (by simp))
                        | exact (((Below.refl w.heap.size w).alloc (Nat.le_refl _) _).alloc (by simp) _).trans (hb1.mono (by simp; omega))
                      have c0 : w1.cell? ⟨w.heap.size, 0, none⟩ = some (.int .i64 k) := hB1.cell 0
                      have hlt : w.heap.size < w1.heap.size := hB1.lt
                      try (have hN : Blk w1 (w.heap.size + 1) 3 [.int .i64 0] := (show Blk _ _ _ _ from (by have := Blk.new (w.alloc (.cells (opCells ⟨k, n, key, til, value, level, lsn⟩).toArray 34)) 3 [.int .i64 0]; simpa using this.below hb1 (by simp)))
                           have cN : w1.cell? ⟨w.heap.size + 1, 0, none⟩ = some (.int .i64 0) := hN.cell 0
                           have fN : w1.frozen? ⟨w.heap.size + 1, 0, none⟩ = false := hN.frozen 0
                           have hNlt : w.heap.size + 1 < w1.heap.size := hN.lt
                           have HN1 := Lib.hid hN; clear hN)
                      have HB1 := Lib.hid hB1; clear hB1
                      have hlk := run_lookup_i Tryz.underlying100 Tryz.underlying31 hm k (hz _); rw [HG.out] at hlk
                      have hlk2 := fun o => run_lookup_i Tryz.underlying100 Tryz.underlying31 (MapI.alloc hm o) k (hz _)
                      rw [HG.out] at hlk2)
      all_goals
        go_wp2_with fail
        go_meet
        refine ⟨rfl, _, rfl, ?_, ?_, ?_⟩
        · first
          | exact (Blk.new w1 3 [.int .i64 _]).cell 0
          | exact World.cell?_setCell_same _ _ _ cN
        · first
          | exact HB1.out.alloc _
          | exact (Below.heap_setCell _ _ _ _ (by simp)).trans HB1.out
        · first
          | exact hbb.alloc hbb.size _
          | exact (hbb.alloc hbb.size _).drew
          | exact below_drewN (hbb.alloc hbb.size _) _
          | exact hbb.setCell (by simp) _
          | exact (hbb.setCell (by simp) _).drew
          | exact below_drewN (hbb.setCell (by simp) _) _
    | some m =>
      go_region_with (go_at_call 52; refine (named_any _).mono ?_; rintro e w1 ⟨g, rfl, hm, hb1⟩
                      try replace hb1 := below_undrew hb1
                      have hB1 : Blk w1 w.heap.size 34 (opCells ⟨k, n, key, til, value, level, lsn⟩) := by
                        first
                        | exact hBox.below hb1 (by simp)
                        | exact (hBox.alloc _).below hb1 (by simp; omega)
                      have hbb : Below w.heap.size w w1 := by
                        first
                        | exact ((Below.refl w.heap.size w).alloc (Nat.le_refl _) _).trans (hb1.mono (by simp))
                        | exact (((Below.refl w.heap.size w).alloc (Nat.le_refl _) _).alloc (by simp) _).trans (hb1.mono (by simp; omega))
                      have c0 : w1.cell? ⟨w.heap.size, 0, none⟩ = some (.int .i64 k) := hB1.cell 0
                      have hlt : w.heap.size < w1.heap.size := hB1.lt
                      try (have hN : Blk w1 (w.heap.size + 1) 3 [.int .i64 0] := (show Blk _ _ _ _ from (by have := Blk.new (w.alloc (.cells (opCells ⟨k, n, key, til, value, level, lsn⟩).toArray 34)) 3 [.int .i64 0]; simpa using this.below hb1 (by simp)))
                           have cN : w1.cell? ⟨w.heap.size + 1, 0, none⟩ = some (.int .i64 0) := hN.cell 0
                           have fN : w1.frozen? ⟨w.heap.size + 1, 0, none⟩ = false := hN.frozen 0
                           have hNlt : w.heap.size + 1 < w1.heap.size := hN.lt
                           have HN1 := Lib.hid hN; clear hN)
                      have HB1 := Lib.hid hB1; clear hB1
                      have hlk := run_lookup_i Tryz.underlying100 Tryz.underlying31 hm k (hz _); rw [HG.out] at hlk
                      have hlk2 := fun o => run_lookup_i Tryz.underlying100 Tryz.underlying31 (MapI.alloc hm o) k (hz _)
                      rw [HG.out] at hlk2)
      all_goals
        go_wp2_with fail
        go_meet
        refine ⟨rfl, _, rfl, ?_, ?_, ?_⟩
        · first
          | exact (Blk.new w1 3 [.int .i64 _]).cell 0
          | exact World.cell?_setCell_same _ _ _ cN
        · first
          | exact HB1.out.alloc _
          | exact (Below.heap_setCell _ _ _ _ (by simp)).trans HB1.out
        · first
          | exact hbb.alloc hbb.size _
          | exact (hbb.alloc hbb.size _).drew
          | exact below_drewN (hbb.alloc hbb.size _) _
          | exact hbb.setCell (by simp) _
          | exact (hbb.setCell (by simp) _).drew
          | exact below_drewN (hbb.setCell (by simp) _) _
  case rest =>
    obtain ⟨rfl, nb, rfl, hcm, hB, hb⟩ := hcut
    have c1 : wc.cell? ⟨w.heap.size, 1, none⟩ = some (.int .u64 n) := hB.cell 1
    have c2 : wc.cell? ⟨w.heap.size, 2, none⟩ = some (.string key) := hB.cell 2
    have c3 : wc.cell? ⟨w.heap.size, 3, none⟩ = some (.string til) := hB.cell 3
    have c4 : wc.cell? ⟨w.heap.size, 4, none⟩ = some (.string value) := hB.cell 4
    have c5 : wc.cell? ⟨w.heap.size, 5, none⟩ = some (.int .i64 level) := hB.cell 5
    have c6 : wc.cell? ⟨w.heap.size, 6, none⟩ = some (.int .u64 lsn) := hB.cell 6
    have HB := Lib.hid hB; clear hB hBox
    cases mo with
    | none =>
      go_wp2
      go_ret
      exact ⟨ret_bool (mayOp_none HG.out).symm, hb⟩
    | some m =>
      rcases named_mask HG.out with rfl | rfl | rfl | rfl | rfl | rfl | rfl
      · have hcm : wc.cell? ⟨nb, 0, none⟩ = some (.int .i64 0) := hcm
        go_wp2_with (first
          | (go_at_call 60; ((with_reducible refine (lacks_at (f := 1) (b := true) (by decide) hcm).mono ?_); rintro e w1 ⟨rfl, rfl⟩))
          | (go_at_call 60; ((with_reducible refine (lacks_at (f := 2) (b := true) (by decide) hcm).mono ?_); rintro e w1 ⟨rfl, rfl⟩))
          | (go_at_call 60; ((with_reducible refine (lacks_at (f := 4) (b := true) (by decide) hcm).mono ?_); rintro e w1 ⟨rfl, rfl⟩))
          | (go_at_call 60; ((with_reducible refine (lacks_at (f := 8) (b := true) (by decide) hcm).mono ?_); rintro e w1 ⟨rfl, rfl⟩))
          | (go_at_call 60; ((with_reducible refine (lacks_at (f := 16) (b := true) (by decide) hcm).mono ?_); rintro e w1 ⟨rfl, rfl⟩))
          | (go_at_call 60; ((with_reducible refine (lacks_at (f := 32) (b := true) (by decide) hcm).mono ?_); rintro e w1 ⟨rfl, rfl⟩)))
        all_goals
          clear hcm c1 c2 c3 c4 c5 c6 hz
          go_ret
          refine ⟨ret_bool ?_, hb⟩
          rw [mayOp_some HG.out]
          simp_all [mayW, h0_1, h0_2, h0_4, h0_8, h0_16, h0_32]
          try (rw [Bool.eq_iff_iff]; simp only [Bool.and_eq_true, decide_eq_true_eq]; omega)
      · have hcm : wc.cell? ⟨nb, 0, none⟩ = some (.int .i64 5) := hcm
        go_wp2_with (first
          | (go_at_call 60; ((with_reducible refine (lacks_at (f := 1) (b := false) (by decide) hcm).mono ?_); rintro e w1 ⟨rfl, rfl⟩))
          | (go_at_call 60; ((with_reducible refine (lacks_at (f := 2) (b := true) (by decide) hcm).mono ?_); rintro e w1 ⟨rfl, rfl⟩))
          | (go_at_call 60; ((with_reducible refine (lacks_at (f := 4) (b := false) (by decide) hcm).mono ?_); rintro e w1 ⟨rfl, rfl⟩))
          | (go_at_call 60; ((with_reducible refine (lacks_at (f := 8) (b := true) (by decide) hcm).mono ?_); rintro e w1 ⟨rfl, rfl⟩))
          | (go_at_call 60; ((with_reducible refine (lacks_at (f := 16) (b := true) (by decide) hcm).mono ?_); rintro e w1 ⟨rfl, rfl⟩))
          | (go_at_call 60; ((with_reducible refine (lacks_at (f := 32) (b := true) (by decide) hcm).mono ?_); rintro e w1 ⟨rfl, rfl⟩)))
        all_goals
          clear hcm c1 c2 c3 c4 c5 c6 hz
          go_ret
          refine ⟨ret_bool ?_, hb⟩
          rw [mayOp_some HG.out]
          simp_all [mayW, h5_1, h5_2, h5_4, h5_8, h5_16, h5_32]
          try (rw [Bool.eq_iff_iff]; simp only [Bool.and_eq_true, decide_eq_true_eq]; omega)
      · have hcm : wc.cell? ⟨nb, 0, none⟩ = some (.int .i64 13) := hcm
        go_wp2_with (first
          | (go_at_call 60; ((with_reducible refine (lacks_at (f := 1) (b := false) (by decide) hcm).mono ?_); rintro e w1 ⟨rfl, rfl⟩))
          | (go_at_call 60; ((with_reducible refine (lacks_at (f := 2) (b := true) (by decide) hcm).mono ?_); rintro e w1 ⟨rfl, rfl⟩))
          | (go_at_call 60; ((with_reducible refine (lacks_at (f := 4) (b := false) (by decide) hcm).mono ?_); rintro e w1 ⟨rfl, rfl⟩))
          | (go_at_call 60; ((with_reducible refine (lacks_at (f := 8) (b := false) (by decide) hcm).mono ?_); rintro e w1 ⟨rfl, rfl⟩))
          | (go_at_call 60; ((with_reducible refine (lacks_at (f := 16) (b := true) (by decide) hcm).mono ?_); rintro e w1 ⟨rfl, rfl⟩))
          | (go_at_call 60; ((with_reducible refine (lacks_at (f := 32) (b := true) (by decide) hcm).mono ?_); rintro e w1 ⟨rfl, rfl⟩)))
        all_goals
          clear hcm c1 c2 c3 c4 c5 c6 hz
          go_ret
          refine ⟨ret_bool ?_, hb⟩
          rw [mayOp_some HG.out]
          simp_all [mayW, h13_1, h13_2, h13_4, h13_8, h13_16, h13_32]
          try (rw [Bool.eq_iff_iff]; simp only [Bool.and_eq_true, decide_eq_true_eq]; omega)
      · have hcm : wc.cell? ⟨nb, 0, none⟩ = some (.int .i64 21) := hcm
        go_wp2_with (first
          | (go_at_call 60; ((with_reducible refine (lacks_at (f := 1) (b := false) (by decide) hcm).mono ?_); rintro e w1 ⟨rfl, rfl⟩))
          | (go_at_call 60; ((with_reducible refine (lacks_at (f := 2) (b := true) (by decide) hcm).mono ?_); rintro e w1 ⟨rfl, rfl⟩))
          | (go_at_call 60; ((with_reducible refine (lacks_at (f := 4) (b := false) (by decide) hcm).mono ?_); rintro e w1 ⟨rfl, rfl⟩))
          | (go_at_call 60; ((with_reducible refine (lacks_at (f := 8) (b := true) (by decide) hcm).mono ?_); rintro e w1 ⟨rfl, rfl⟩))
          | (go_at_call 60; ((with_reducible refine (lacks_at (f := 16) (b := false) (by decide) hcm).mono ?_); rintro e w1 ⟨rfl, rfl⟩))
          | (go_at_call 60; ((with_reducible refine (lacks_at (f := 32) (b := true) (by decide) hcm).mono ?_); rintro e w1 ⟨rfl, rfl⟩)))
        all_goals
          clear hcm c1 c2 c3 c4 c5 c6 hz
          go_ret
          refine ⟨ret_bool ?_, hb⟩
          rw [mayOp_some HG.out]
          simp_all [mayW, h21_1, h21_2, h21_4, h21_8, h21_16, h21_32]
          try (rw [Bool.eq_iff_iff]; simp only [Bool.and_eq_true, decide_eq_true_eq]; omega)
      · have hcm : wc.cell? ⟨nb, 0, none⟩ = some (.int .i64 1) := hcm
        go_wp2_with (first
          | (go_at_call 60; ((with_reducible refine (lacks_at (f := 1) (b := false) (by decide) hcm).mono ?_); rintro e w1 ⟨rfl, rfl⟩))
          | (go_at_call 60; ((with_reducible refine (lacks_at (f := 2) (b := true) (by decide) hcm).mono ?_); rintro e w1 ⟨rfl, rfl⟩))
          | (go_at_call 60; ((with_reducible refine (lacks_at (f := 4) (b := true) (by decide) hcm).mono ?_); rintro e w1 ⟨rfl, rfl⟩))
          | (go_at_call 60; ((with_reducible refine (lacks_at (f := 8) (b := true) (by decide) hcm).mono ?_); rintro e w1 ⟨rfl, rfl⟩))
          | (go_at_call 60; ((with_reducible refine (lacks_at (f := 16) (b := true) (by decide) hcm).mono ?_); rintro e w1 ⟨rfl, rfl⟩))
          | (go_at_call 60; ((with_reducible refine (lacks_at (f := 32) (b := true) (by decide) hcm).mono ?_); rintro e w1 ⟨rfl, rfl⟩)))
        all_goals
          clear hcm c1 c2 c3 c4 c5 c6 hz
          go_ret
          refine ⟨ret_bool ?_, hb⟩
          rw [mayOp_some HG.out]
          simp_all [mayW, h1_1, h1_2, h1_4, h1_8, h1_16, h1_32]
          try (rw [Bool.eq_iff_iff]; simp only [Bool.and_eq_true, decide_eq_true_eq]; omega)
      · have hcm : wc.cell? ⟨nb, 0, none⟩ = some (.int .i64 33) := hcm
        go_wp2_with (first
          | (go_at_call 60; ((with_reducible refine (lacks_at (f := 1) (b := false) (by decide) hcm).mono ?_); rintro e w1 ⟨rfl, rfl⟩))
          | (go_at_call 60; ((with_reducible refine (lacks_at (f := 2) (b := true) (by decide) hcm).mono ?_); rintro e w1 ⟨rfl, rfl⟩))
          | (go_at_call 60; ((with_reducible refine (lacks_at (f := 4) (b := true) (by decide) hcm).mono ?_); rintro e w1 ⟨rfl, rfl⟩))
          | (go_at_call 60; ((with_reducible refine (lacks_at (f := 8) (b := true) (by decide) hcm).mono ?_); rintro e w1 ⟨rfl, rfl⟩))
          | (go_at_call 60; ((with_reducible refine (lacks_at (f := 16) (b := true) (by decide) hcm).mono ?_); rintro e w1 ⟨rfl, rfl⟩))
          | (go_at_call 60; ((with_reducible refine (lacks_at (f := 32) (b := false) (by decide) hcm).mono ?_); rintro e w1 ⟨rfl, rfl⟩)))
        all_goals
          clear hcm c1 c2 c3 c4 c5 c6 hz
          go_ret
          refine ⟨ret_bool ?_, hb⟩
          rw [mayOp_some HG.out]
          simp_all [mayW, h33_1, h33_2, h33_4, h33_8, h33_16, h33_32]
          try (rw [Bool.eq_iff_iff]; simp only [Bool.and_eq_true, decide_eq_true_eq]; omega)
      · have hcm : wc.cell? ⟨nb, 0, none⟩ = some (.int .i64 34) := hcm
        go_wp2_with (first
          | (go_at_call 60; ((with_reducible refine (lacks_at (f := 1) (b := true) (by decide) hcm).mono ?_); rintro e w1 ⟨rfl, rfl⟩))
          | (go_at_call 60; ((with_reducible refine (lacks_at (f := 2) (b := false) (by decide) hcm).mono ?_); rintro e w1 ⟨rfl, rfl⟩))
          | (go_at_call 60; ((with_reducible refine (lacks_at (f := 4) (b := true) (by decide) hcm).mono ?_); rintro e w1 ⟨rfl, rfl⟩))
          | (go_at_call 60; ((with_reducible refine (lacks_at (f := 8) (b := true) (by decide) hcm).mono ?_); rintro e w1 ⟨rfl, rfl⟩))
          | (go_at_call 60; ((with_reducible refine (lacks_at (f := 16) (b := true) (by decide) hcm).mono ?_); rintro e w1 ⟨rfl, rfl⟩))
          | (go_at_call 60; ((with_reducible refine (lacks_at (f := 32) (b := false) (by decide) hcm).mono ?_); rintro e w1 ⟨rfl, rfl⟩)))
        all_goals
          clear hcm c1 c2 c3 c4 c5 c6 hz
          go_ret
          refine ⟨ret_bool ?_, hb⟩
          rw [mayOp_some HG.out]
          simp_all [mayW, h34_1, h34_2, h34_4, h34_8, h34_16, h34_32]
          try (rw [Bool.eq_iff_iff]; simp only [Bool.and_eq_true, decide_eq_true_eq]; omega)
end Go.Proofs.YtgplaeopcejmoaaGreatDoor
