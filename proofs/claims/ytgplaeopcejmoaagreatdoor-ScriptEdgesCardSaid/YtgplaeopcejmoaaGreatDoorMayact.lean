/- The walk of MayAct. -/
import Derived.Test.YtgplaeopcejmoaaGreatDoorAct
namespace Go.Proofs.YtgplaeopcejmoaaGreatDoor
open Go.RowKit Go.Shelf

structure Ar where
  kind : Int
  node : Int
  source : Int
  n : Int
  op : Opr
  picks : List Int
def opIsZ (o : Opr) : Bool := o.kind == 0 && ((o.n : Int) == 0 && (o.key.toList == [] && (o.til.toList == [] && (o.value.toList == [] && (o.level == 0 && (o.lsn : Int) == 0)))))
def mayA (m : Int) (a : Ar) : Bool :=
  (hasF m 1 || a.node == 0) && (hasF m 2 || a.source == 0) && (hasF m 4 || a.n == 0) && (hasF m 8 || opIsZ a.op) && (hasF m 16 || a.picks.length == 0) && decide (a.picks.length ≤ 512) && (!hasF m 8 || mayOp a.op)
def mayAct (a : Ar) : Bool := match getI ofActL a.kind with
  | none => false
  | some m => mayA m a
theorem lacksA_any (p : Addr) (m f : Int) (w : World) (hc : w.cell? p = some (.int .i64 m)) :
    Calls Tryz.prog 70 #[.int .i64 f, .pointer (some p)] w fun e w' => e = .returned (.bool (bits .and .i64 m f == 0)) ∧ w = w' := by
  go_enter Tryz.func70, Tryz.ntmps70
  go_wp2
  go_ret
  exact ⟨rfl, rfl⟩
theorem lacksA_at {p : Addr} {m f : Int} {b : Bool} (hb : (bits .and .i64 m f == 0) = b) {w : World} (hc : w.cell? p = some (.int .i64 m)) :
    Calls Tryz.prog 70 #[.int .i64 f, .pointer (some p)] w fun e w' => e = .returned (.bool b) ∧ w = w' := hb ▸ lacksA_any p m f w hc
theorem act_mask {k m : Int} (h : getI ofActL k = some m) : m = 9 ∨ m = 4 ∨ m = 1 ∨ m = 5 ∨ m = 17 ∨ m = 21 ∨ m = 3 := by
  have := getI_mem h
  simp only [ofActL, List.mem_cons, Prod.mk.injEq, List.not_mem_nil, or_false] at this
  omega

theorem ha9_1 : hasF 9 1 = true := by decide
theorem ha9_2 : hasF 9 2 = false := by decide
theorem ha9_4 : hasF 9 4 = false := by decide
theorem ha9_8 : hasF 9 8 = true := by decide
theorem ha9_16 : hasF 9 16 = false := by decide
theorem ha4_1 : hasF 4 1 = false := by decide
theorem ha4_2 : hasF 4 2 = false := by decide
theorem ha4_4 : hasF 4 4 = true := by decide
theorem ha4_8 : hasF 4 8 = false := by decide
theorem ha4_16 : hasF 4 16 = false := by decide
theorem ha1_1 : hasF 1 1 = true := by decide
theorem ha1_2 : hasF 1 2 = false := by decide
theorem ha1_4 : hasF 1 4 = false := by decide
theorem ha1_8 : hasF 1 8 = false := by decide
theorem ha1_16 : hasF 1 16 = false := by decide
theorem ha5_1 : hasF 5 1 = true := by decide
theorem ha5_2 : hasF 5 2 = false := by decide
theorem ha5_4 : hasF 5 4 = true := by decide
theorem ha5_8 : hasF 5 8 = false := by decide
theorem ha5_16 : hasF 5 16 = false := by decide
theorem ha17_1 : hasF 17 1 = true := by decide
theorem ha17_2 : hasF 17 2 = false := by decide
theorem ha17_4 : hasF 17 4 = false := by decide
theorem ha17_8 : hasF 17 8 = false := by decide
theorem ha17_16 : hasF 17 16 = true := by decide
theorem ha21_1 : hasF 21 1 = true := by decide
theorem ha21_2 : hasF 21 2 = false := by decide
theorem ha21_4 : hasF 21 4 = true := by decide
theorem ha21_8 : hasF 21 8 = false := by decide
theorem ha21_16 : hasF 21 16 = true := by decide
theorem ha3_1 : hasF 3 1 = true := by decide
theorem ha3_2 : hasF 3 2 = true := by decide
theorem ha3_4 : hasF 3 4 = false := by decide
theorem ha3_8 : hasF 3 8 = false := by decide
theorem ha3_16 : hasF 3 16 = false := by decide
theorem mayAct_some {a : Ar} {m : Int} (h : getI ofActL a.kind = some m) : mayAct a = mayA m a := by unfold mayAct; rw [h]
theorem mayAct_none {a : Ar} (h : getI ofActL a.kind = none) : mayAct a = false := by unfold mayAct; rw [h]

set_option maxRecDepth 100000 in
set_option maxHeartbeats 8000000 in
theorem mayact_any (k node source n : Int) (ok : Int) (on : Nat) (key til value : ByteArray) (level : Int) (lsn : Nat) (picks : List Int) (pa : Option Addr) (pc : Nat) (w : World) :
    Calls Tryz.prog 27 #[.agg #[.int .i64 k, .int .i64 node, .int .i64 source, .int .i64 n, .int .i64 ok, .int .u64 (on : Int), .string key, .string til, .string value, .int .i64 level, .int .u64 (lsn : Int), .slice pa picks.length pc]] w
      fun e w' => e = .returned (.bool (mayAct ⟨k, node, source, n, ⟨ok, on, key, til, value, level, lsn⟩, picks⟩)) ∧ Below w.heap.size w w' := by
  obtain ⟨mo, hmo⟩ : ∃ mo, getI ofActL k = mo := ⟨_, rfl⟩
  have HG := Lib.hid hmo; clear hmo
  have hv : ofActV k = .tuple #[.int .i64 (mo.getD 0), .bool mo.isSome] := by unfold ofActV; rw [HG.out]
  have hbA : ∀ m x1 x2 x3 x4 : Int, Below w.heap.size w ((w.alloc (.cells #[.int .i64 k, .int .i64 node, .int .i64 source, .int .i64 n, .int .i64 x1, .int .u64 x2, .string key, .string til, .string value, .int .i64 x3, .int .u64 x4, .slice pa picks.length pc] 39)).alloc (.cells #[.int .i64 m] 3)) := fun m _ _ _ _ => ((Below.refl _ w).alloc (Nat.le_refl _) _).alloc (by simp) _
  have hcA : ∀ m x1 x2 x3 x4 : Int, ((w.alloc (.cells #[.int .i64 k, .int .i64 node, .int .i64 source, .int .i64 n, .int .i64 x1, .int .u64 x2, .string key, .string til, .string value, .int .i64 x3, .int .u64 x4, .slice pa picks.length pc] 39)).alloc (.cells #[.int .i64 m] 3)).cell? ⟨w.heap.size + 1, 0, none⟩ = some (.int .i64 m) := by
    intro m x1 x2 x3 x4
    have := (Blk.new (w.alloc (.cells #[.int .i64 k, .int .i64 node, .int .i64 source, .int .i64 n, .int .i64 x1, .int .u64 x2, .string key, .string til, .string value, .int .i64 x3, .int .u64 x4, .slice pa picks.length pc] 39)) 3 [.int .i64 m]).cell 0
    rw [World.size_alloc] at this
    exact this
  cases mo with
  | none =>
    go_enter Tryz.func27, Tryz.ntmps27
    go_wp2_with (go_at_call 57; refine (ofAct_any k _).mono ?_; rintro e w1 ⟨rfl, rfl⟩; rw [hv])
    go_ret
    exact ⟨ret_bool (mayAct_none HG.out).symm, hbA _ _ _ _ _⟩
  | some m =>
    rcases act_mask HG.out with rfl | rfl | rfl | rfl | rfl | rfl | rfl
    · have hcm := hcA 9
      have hbm := hbA 9
      clear hcA hbA
      go_enter Tryz.func27, Tryz.ntmps27
      go_wp2_with (first
        | (go_at_call 57; refine (ofAct_any k _).mono ?_; rintro e w1 ⟨rfl, rfl⟩; rw [hv])
        | (go_at_call 70; ((with_reducible refine (lacksA_at (f := 1) (b := false) (by decide) (hcm _ _ _ _)).mono ?_); rintro e w1 ⟨rfl, rfl⟩))
        | (go_at_call 70; ((with_reducible refine (lacksA_at (f := 2) (b := true) (by decide) (hcm _ _ _ _)).mono ?_); rintro e w1 ⟨rfl, rfl⟩))
        | (go_at_call 70; ((with_reducible refine (lacksA_at (f := 4) (b := true) (by decide) (hcm _ _ _ _)).mono ?_); rintro e w1 ⟨rfl, rfl⟩))
        | (go_at_call 70; ((with_reducible refine (lacksA_at (f := 8) (b := false) (by decide) (hcm _ _ _ _)).mono ?_); rintro e w1 ⟨rfl, rfl⟩))
        | (go_at_call 70; ((with_reducible refine (lacksA_at (f := 16) (b := true) (by decide) (hcm _ _ _ _)).mono ?_); rintro e w1 ⟨rfl, rfl⟩))
        | (go_at_call 19; ((with_reducible refine (mayop_any ok on key til value level lsn _).mono ?_); rintro e w1 ⟨rfl, hb1⟩)))
      all_goals
        go_ret
        first
        | refine ⟨ret_bool ?_, hbm _ _ _ _⟩
        | refine ⟨ret_bool ?_, (hbm _ _ _ _).trans (hb1.mono (by simp; omega))⟩
        rw [mayAct_some HG.out]
        clear hcm hv hbm
        simp_all [mayA, opIsZ, ha9_1, ha9_2, ha9_4, ha9_8, ha9_16]
        try omega
    · have hcm := hcA 4
      have hbm := hbA 4
      clear hcA hbA
      go_enter Tryz.func27, Tryz.ntmps27
      go_wp2_with (first
        | (go_at_call 57; refine (ofAct_any k _).mono ?_; rintro e w1 ⟨rfl, rfl⟩; rw [hv])
        | (go_at_call 70; ((with_reducible refine (lacksA_at (f := 1) (b := true) (by decide) (hcm _ _ _ _)).mono ?_); rintro e w1 ⟨rfl, rfl⟩))
        | (go_at_call 70; ((with_reducible refine (lacksA_at (f := 2) (b := true) (by decide) (hcm _ _ _ _)).mono ?_); rintro e w1 ⟨rfl, rfl⟩))
        | (go_at_call 70; ((with_reducible refine (lacksA_at (f := 4) (b := false) (by decide) (hcm _ _ _ _)).mono ?_); rintro e w1 ⟨rfl, rfl⟩))
        | (go_at_call 70; ((with_reducible refine (lacksA_at (f := 8) (b := true) (by decide) (hcm _ _ _ _)).mono ?_); rintro e w1 ⟨rfl, rfl⟩))
        | (go_at_call 70; ((with_reducible refine (lacksA_at (f := 16) (b := true) (by decide) (hcm _ _ _ _)).mono ?_); rintro e w1 ⟨rfl, rfl⟩))
        | (go_at_call 19; ((with_reducible refine (mayop_any ok on key til value level lsn _).mono ?_); rintro e w1 ⟨rfl, hb1⟩)))
      all_goals
        go_ret
        first
        | refine ⟨ret_bool ?_, hbm _ _ _ _⟩
        | refine ⟨ret_bool ?_, (hbm _ _ _ _).trans (hb1.mono (by simp; omega))⟩
        rw [mayAct_some HG.out]
        clear hcm hv hbm
        simp_all [mayA, opIsZ, ha4_1, ha4_2, ha4_4, ha4_8, ha4_16]
        try omega
    · have hcm := hcA 1
      have hbm := hbA 1
      clear hcA hbA
      go_enter Tryz.func27, Tryz.ntmps27
      go_wp2_with (first
        | (go_at_call 57; refine (ofAct_any k _).mono ?_; rintro e w1 ⟨rfl, rfl⟩; rw [hv])
        | (go_at_call 70; ((with_reducible refine (lacksA_at (f := 1) (b := false) (by decide) (hcm _ _ _ _)).mono ?_); rintro e w1 ⟨rfl, rfl⟩))
        | (go_at_call 70; ((with_reducible refine (lacksA_at (f := 2) (b := true) (by decide) (hcm _ _ _ _)).mono ?_); rintro e w1 ⟨rfl, rfl⟩))
        | (go_at_call 70; ((with_reducible refine (lacksA_at (f := 4) (b := true) (by decide) (hcm _ _ _ _)).mono ?_); rintro e w1 ⟨rfl, rfl⟩))
        | (go_at_call 70; ((with_reducible refine (lacksA_at (f := 8) (b := true) (by decide) (hcm _ _ _ _)).mono ?_); rintro e w1 ⟨rfl, rfl⟩))
        | (go_at_call 70; ((with_reducible refine (lacksA_at (f := 16) (b := true) (by decide) (hcm _ _ _ _)).mono ?_); rintro e w1 ⟨rfl, rfl⟩))
        | (go_at_call 19; ((with_reducible refine (mayop_any ok on key til value level lsn _).mono ?_); rintro e w1 ⟨rfl, hb1⟩)))
      all_goals
        go_ret
        first
        | refine ⟨ret_bool ?_, hbm _ _ _ _⟩
        | refine ⟨ret_bool ?_, (hbm _ _ _ _).trans (hb1.mono (by simp; omega))⟩
        rw [mayAct_some HG.out]
        clear hcm hv hbm
        simp_all [mayA, opIsZ, ha1_1, ha1_2, ha1_4, ha1_8, ha1_16]
        try omega
    · have hcm := hcA 5
      have hbm := hbA 5
      clear hcA hbA
      go_enter Tryz.func27, Tryz.ntmps27
      go_wp2_with (first
        | (go_at_call 57; refine (ofAct_any k _).mono ?_; rintro e w1 ⟨rfl, rfl⟩; rw [hv])
        | (go_at_call 70; ((with_reducible refine (lacksA_at (f := 1) (b := false) (by decide) (hcm _ _ _ _)).mono ?_); rintro e w1 ⟨rfl, rfl⟩))
        | (go_at_call 70; ((with_reducible refine (lacksA_at (f := 2) (b := true) (by decide) (hcm _ _ _ _)).mono ?_); rintro e w1 ⟨rfl, rfl⟩))
        | (go_at_call 70; ((with_reducible refine (lacksA_at (f := 4) (b := false) (by decide) (hcm _ _ _ _)).mono ?_); rintro e w1 ⟨rfl, rfl⟩))
        | (go_at_call 70; ((with_reducible refine (lacksA_at (f := 8) (b := true) (by decide) (hcm _ _ _ _)).mono ?_); rintro e w1 ⟨rfl, rfl⟩))
        | (go_at_call 70; ((with_reducible refine (lacksA_at (f := 16) (b := true) (by decide) (hcm _ _ _ _)).mono ?_); rintro e w1 ⟨rfl, rfl⟩))
        | (go_at_call 19; ((with_reducible refine (mayop_any ok on key til value level lsn _).mono ?_); rintro e w1 ⟨rfl, hb1⟩)))
      all_goals
        go_ret
        first
        | refine ⟨ret_bool ?_, hbm _ _ _ _⟩
        | refine ⟨ret_bool ?_, (hbm _ _ _ _).trans (hb1.mono (by simp; omega))⟩
        rw [mayAct_some HG.out]
        clear hcm hv hbm
        simp_all [mayA, opIsZ, ha5_1, ha5_2, ha5_4, ha5_8, ha5_16]
        try omega
    · have hcm := hcA 17
      have hbm := hbA 17
      clear hcA hbA
      go_enter Tryz.func27, Tryz.ntmps27
      go_wp2_with (first
        | (go_at_call 57; refine (ofAct_any k _).mono ?_; rintro e w1 ⟨rfl, rfl⟩; rw [hv])
        | (go_at_call 70; ((with_reducible refine (lacksA_at (f := 1) (b := false) (by decide) (hcm _ _ _ _)).mono ?_); rintro e w1 ⟨rfl, rfl⟩))
        | (go_at_call 70; ((with_reducible refine (lacksA_at (f := 2) (b := true) (by decide) (hcm _ _ _ _)).mono ?_); rintro e w1 ⟨rfl, rfl⟩))
        | (go_at_call 70; ((with_reducible refine (lacksA_at (f := 4) (b := true) (by decide) (hcm _ _ _ _)).mono ?_); rintro e w1 ⟨rfl, rfl⟩))
        | (go_at_call 70; ((with_reducible refine (lacksA_at (f := 8) (b := true) (by decide) (hcm _ _ _ _)).mono ?_); rintro e w1 ⟨rfl, rfl⟩))
        | (go_at_call 70; ((with_reducible refine (lacksA_at (f := 16) (b := false) (by decide) (hcm _ _ _ _)).mono ?_); rintro e w1 ⟨rfl, rfl⟩))
        | (go_at_call 19; ((with_reducible refine (mayop_any ok on key til value level lsn _).mono ?_); rintro e w1 ⟨rfl, hb1⟩)))
      all_goals
        go_ret
        first
        | refine ⟨ret_bool ?_, hbm _ _ _ _⟩
        | refine ⟨ret_bool ?_, (hbm _ _ _ _).trans (hb1.mono (by simp; omega))⟩
        rw [mayAct_some HG.out]
        clear hcm hv hbm
        simp_all [mayA, opIsZ, ha17_1, ha17_2, ha17_4, ha17_8, ha17_16]
        try omega
    · have hcm := hcA 21
      have hbm := hbA 21
      clear hcA hbA
      go_enter Tryz.func27, Tryz.ntmps27
      go_wp2_with (first
        | (go_at_call 57; refine (ofAct_any k _).mono ?_; rintro e w1 ⟨rfl, rfl⟩; rw [hv])
        | (go_at_call 70; ((with_reducible refine (lacksA_at (f := 1) (b := false) (by decide) (hcm _ _ _ _)).mono ?_); rintro e w1 ⟨rfl, rfl⟩))
        | (go_at_call 70; ((with_reducible refine (lacksA_at (f := 2) (b := true) (by decide) (hcm _ _ _ _)).mono ?_); rintro e w1 ⟨rfl, rfl⟩))
        | (go_at_call 70; ((with_reducible refine (lacksA_at (f := 4) (b := false) (by decide) (hcm _ _ _ _)).mono ?_); rintro e w1 ⟨rfl, rfl⟩))
        | (go_at_call 70; ((with_reducible refine (lacksA_at (f := 8) (b := true) (by decide) (hcm _ _ _ _)).mono ?_); rintro e w1 ⟨rfl, rfl⟩))
        | (go_at_call 70; ((with_reducible refine (lacksA_at (f := 16) (b := false) (by decide) (hcm _ _ _ _)).mono ?_); rintro e w1 ⟨rfl, rfl⟩))
        | (go_at_call 19; ((with_reducible refine (mayop_any ok on key til value level lsn _).mono ?_); rintro e w1 ⟨rfl, hb1⟩)))
      all_goals
        go_ret
        first
        | refine ⟨ret_bool ?_, hbm _ _ _ _⟩
        | refine ⟨ret_bool ?_, (hbm _ _ _ _).trans (hb1.mono (by simp; omega))⟩
        rw [mayAct_some HG.out]
        clear hcm hv hbm
        simp_all [mayA, opIsZ, ha21_1, ha21_2, ha21_4, ha21_8, ha21_16]
        try omega
    · have hcm := hcA 3
      have hbm := hbA 3
      clear hcA hbA
      go_enter Tryz.func27, Tryz.ntmps27
      go_wp2_with (first
        | (go_at_call 57; refine (ofAct_any k _).mono ?_; rintro e w1 ⟨rfl, rfl⟩; rw [hv])
        | (go_at_call 70; ((with_reducible refine (lacksA_at (f := 1) (b := false) (by decide) (hcm _ _ _ _)).mono ?_); rintro e w1 ⟨rfl, rfl⟩))
        | (go_at_call 70; ((with_reducible refine (lacksA_at (f := 2) (b := false) (by decide) (hcm _ _ _ _)).mono ?_); rintro e w1 ⟨rfl, rfl⟩))
        | (go_at_call 70; ((with_reducible refine (lacksA_at (f := 4) (b := true) (by decide) (hcm _ _ _ _)).mono ?_); rintro e w1 ⟨rfl, rfl⟩))
        | (go_at_call 70; ((with_reducible refine (lacksA_at (f := 8) (b := true) (by decide) (hcm _ _ _ _)).mono ?_); rintro e w1 ⟨rfl, rfl⟩))
        | (go_at_call 70; ((with_reducible refine (lacksA_at (f := 16) (b := true) (by decide) (hcm _ _ _ _)).mono ?_); rintro e w1 ⟨rfl, rfl⟩))
        | (go_at_call 19; ((with_reducible refine (mayop_any ok on key til value level lsn _).mono ?_); rintro e w1 ⟨rfl, hb1⟩)))
      all_goals
        go_ret
        first
        | refine ⟨ret_bool ?_, hbm _ _ _ _⟩
        | refine ⟨ret_bool ?_, (hbm _ _ _ _).trans (hb1.mono (by simp; omega))⟩
        rw [mayAct_some HG.out]
        clear hcm hv hbm
        simp_all [mayA, opIsZ, ha3_1, ha3_2, ha3_4, ha3_8, ha3_16]
        try omega
end Go.Proofs.YtgplaeopcejmoaaGreatDoor
