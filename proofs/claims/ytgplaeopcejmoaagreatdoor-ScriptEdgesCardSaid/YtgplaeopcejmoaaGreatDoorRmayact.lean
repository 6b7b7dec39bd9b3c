/- The walk of the document's MayAct. -/
import Derived.Test.YtgplaeopcejmoaaGreatDoorRmayop
import Derived.Test.YtgplaeopcejmoaaGreatDoorRnp
namespace Go.Proofs.YtgplaeopcejmoaaGreatDoor
open Go.RowKit

/-- what the document asks of an act whose kind names the letters p -/
def mayAP (bd bs bn bo bp : Bool) (a : Ar) : Bool :=
  decide (a.picks.length ≤ 512) && ((!bo || mayOp a.op) && (((a.node == 0) || bd) && (((a.source == 0) || bs) && (((a.n == 0) || bn) && ((((a.picks.length : Int) == 0) || bp) && (bo || opIsZ a.op))))))
def maskA (m : Int) (p : ByteArray) : Prop := hasF m 1 = hasB p 100 ∧ hasF m 2 = hasB p 115 ∧ hasF m 4 = hasB p 110 ∧ hasF m 8 = hasB p 111 ∧ hasF m 16 = hasB p 112
theorem partsA_mask : ∀ x : Fin 12, ∃ m, getI ofActL (1 + (x.val : Int)) = some m ∧ maskA m (rapPt x) := by
  intro x
  match x with
  | ⟨0, _⟩ => exact ⟨9, rfl, rfl, rfl, rfl, rfl, rfl⟩
  | ⟨1, _⟩ => exact ⟨4, rfl, rfl, rfl, rfl, rfl, rfl⟩
  | ⟨2, _⟩ => exact ⟨4, rfl, rfl, rfl, rfl, rfl, rfl⟩
  | ⟨3, _⟩ => exact ⟨4, rfl, rfl, rfl, rfl, rfl, rfl⟩
  | ⟨4, _⟩ => exact ⟨1, rfl, rfl, rfl, rfl, rfl, rfl⟩
  | ⟨5, _⟩ => exact ⟨5, rfl, rfl, rfl, rfl, rfl, rfl⟩
  | ⟨6, _⟩ => exact ⟨17, rfl, rfl, rfl, rfl, rfl, rfl⟩
  | ⟨7, _⟩ => exact ⟨21, rfl, rfl, rfl, rfl, rfl, rfl⟩
  | ⟨8, _⟩ => exact ⟨3, rfl, rfl, rfl, rfl, rfl, rfl⟩
  | ⟨9, _⟩ => exact ⟨1, rfl, rfl, rfl, rfl, rfl, rfl⟩
  | ⟨10, _⟩ => exact ⟨3, rfl, rfl, rfl, rfl, rfl, rfl⟩
  | ⟨11, _⟩ => exact ⟨5, rfl, rfl, rfl, rfl, rfl, rfl⟩
theorem mayAP_mask {m : Int} {p : ByteArray} (h : maskA m p) (a : Ar) : mayAP (hasB p 100) (hasB p 115) (hasB p 110) (hasB p 111) (hasB p 112) a = mayA m a := by
  obtain ⟨a1, a2, a4, a8, a16⟩ := h
  unfold mayAP mayA
  rw [a1, a2, a4, a8, a16, nat_beq0]
  generalize (a.node == 0) = b1; generalize (a.source == 0) = b2; generalize (a.n == 0) = b3; generalize (a.picks.length == 0) = b4; generalize opIsZ a.op = b5; generalize mayOp a.op = b6; generalize decide (a.picks.length ≤ 512) = b7
  generalize hasB p 100 = c1; generalize hasB p 115 = c2; generalize hasB p 110 = c3; generalize hasB p 111 = c4; generalize hasB p 112 = c5
  rw [Bool.or_comm b1 c1, Bool.or_comm b2 c2, Bool.or_comm b3 c3, Bool.or_comm b4 c5]
  generalize (c1 || b1) = d1; generalize (c2 || b2) = d2; generalize (c3 || b3) = d3; generalize (c5 || b4) = d4
  cases b7 <;> cases c4 <;> cases b6 <;> cases b5 <;> cases d4 <;> simp [Bool.and_assoc]
theorem partsA_size : ∀ x : Fin 12, (rapPt x).size ≤ 3 := by decide
theorem an_ne : ∀ x : Fin 12, (bs (rapNm x)).isEmpty = false := by decide
theorem an_ne' (x : Fin 12) : (rapNm x).toList.isEmpty = false := by rw [toList_bs]; exact an_ne x

set_option maxRecDepth 100000 in
set_option maxHeartbeats 8000000 in
theorem refmaya_in (x : Fin 12) (node source nn : Int) (k : Int) (m : Nat) (key til value : ByteArray) (level : Int) (lsn : Nat) (picks : List Int) (pa : Option Addr) (pc : Nat) (w : World) :
    Calls Tryz.prog 28 #[.agg #[.int .i64 (1 + (x.val : Int)), .int .i64 node, .int .i64 source, .int .i64 nn, .int .i64 k, .int .u64 (m : Int), .string key, .string til, .string value, .int .i64 level, .int .u64 (lsn : Int), .slice pa picks.length pc]] w fun e w' =>
      e = .returned (.bool (mayAP (hasB (rapPt x) 100) (hasB (rapPt x) 115) (hasB (rapPt x) 110) (hasB (rapPt x) 111) (hasB (rapPt x) 112) ⟨1 + (x.val : Int), node, source, nn, ⟨k, m, key, til, value, level, lsn⟩, picks⟩)) ∧ Below w.heap.size w w' := by
  have hN := rap_in x
  have hne := an_ne' x
  have hps : (rapPt x).size ≤ 1000000 := Nat.le_trans (partsA_size x) (by decide)
  have hN2 : ∀ W, Calls Tryz.prog 71 #[.int .i64 (1 + (x.val : Int))] W fun e w' => e = .returned (.tuple #[.string (rapNm x), .string (rapPt x)]) ∧ Below W.heap.size W w' := fun W => hN W
  clear hN
  unfold mayAP
  simp only
  generalize rapNm x = nm at *
  generalize rapPt x = p at *
  generalize 1 + (x.val : Int) = kd at *
  clear x
  have hBox := Blk.new w 39 [.int .i64 kd, .int .i64 node, .int .i64 source, .int .i64 nn, .int .i64 k, .int .u64 (m : Int), .string key, .string til, .string value, .int .i64 level, .int .u64 (lsn : Int), .slice pa picks.length pc]
  have hB0 : Below w.heap.size w (w.alloc (.cells [.int .i64 kd, .int .i64 node, .int .i64 source, .int .i64 nn, .int .i64 k, .int .u64 (m : Int), .string key, .string til, .string value, .int .i64 level, .int .u64 (lsn : Int), .slice pa picks.length pc].toArray 39)) := (Below.refl _ w).alloc (Nat.le_refl _) _
  have c0 : (w.alloc (.cells [.int .i64 kd, .int .i64 node, .int .i64 source, .int .i64 nn, .int .i64 k, .int .u64 (m : Int), .string key, .string til, .string value, .int .i64 level, .int .u64 (lsn : Int), .slice pa picks.length pc].toArray 39)).cell? ⟨w.heap.size, 0, none⟩ = some (.int .i64 kd) := hBox.cell 0
  have HN := Lib.hid hN2
  clear hN2
  have g1 : ∀ W, Calls Tryz.prog 61 #[.string p, .int .u8 100] W fun e w' => e = .returned (.bool (hasB p 100)) ∧ W = w' := rhas_any p 100 hps
  have g2 : ∀ W, Calls Tryz.prog 61 #[.string p, .int .u8 115] W fun e w' => e = .returned (.bool (hasB p 115)) ∧ W = w' := rhas_any p 115 hps
  have g3 : ∀ W, Calls Tryz.prog 61 #[.string p, .int .u8 110] W fun e w' => e = .returned (.bool (hasB p 110)) ∧ W = w' := rhas_any p 110 hps
  have g4 : ∀ W, Calls Tryz.prog 61 #[.string p, .int .u8 111] W fun e w' => e = .returned (.bool (hasB p 111)) ∧ W = w' := rhas_any p 111 hps
  have g5 : ∀ W, Calls Tryz.prog 61 #[.string p, .int .u8 112] W fun e w' => e = .returned (.bool (hasB p 112)) ∧ W = w' := rhas_any p 112 hps
  have g6 : ∀ W, Calls Tryz.prog 20 #[.agg #[.int .i64 k, .int .u64 (m : Int), .string key, .string til, .string value, .int .i64 level, .int .u64 (lsn : Int)]] W fun e w' => e = .returned (.bool (mayOp ⟨k, m, key, til, value, level, lsn⟩)) ∧ Below W.heap.size W w' := fun W => refmay_any ⟨k, m, key, til, value, level, lsn⟩ W
  have hz : opIsZ ⟨k, m, key, til, value, level, lsn⟩ = (k == 0 && ((m : Int) == 0 && (key.toList == [] && (til.toList == [] && (value.toList == [] && (level == 0 && (lsn : Int) == 0)))))) := rfl
  rw [hz]
  clear hz
  generalize hasB p 100 = b1 at *
  generalize hasB p 115 = b2 at *
  generalize hasB p 110 = b3 at *
  generalize hasB p 111 = b4 at *
  generalize hasB p 112 = b5 at *
  generalize mayOp ⟨k, m, key, til, value, level, lsn⟩ = b6 at *
  have G1 := Lib.hid g1; have G2 := Lib.hid g2; have G3 := Lib.hid g3; have G4 := Lib.hid g4; have G5 := Lib.hid g5; have G6 := Lib.hid g6
  clear g1 g2 g3 g4 g5 g6
  by_cases h1 : picks.length ≤ 512
  · have q1 : ¬ 512 < (picks.length : Int) := by omega
    rw [decide_eq_true h1]
    clear h1
    cases b4 <;> cases b6 <;>
    go_enter Tryz.func28, Tryz.ntmps28
    all_goals
      go_wp2_with (first
        | (go_at_call 71; refine (HN.out _).mono ?_; rintro e w1 ⟨rfl, hb1⟩; have hX := hBox.below hb1 hBox.lt; have hb2 := hB0.trans (hb1.mono (by simp)); have f1 := hX.cell 1; have f2 := hX.cell 2; have f3 := hX.cell 3; have f4 := hX.cell 4; have f5 := hX.cell 5; have f6 := hX.cell 6; have f7 := hX.cell 7; have f8 := hX.cell 8; have f9 := hX.cell 9; have f10 := hX.cell 10; have f11 := hX.cell 11; simp only [List.getElem?_cons_succ, List.getElem?_cons_zero] at f1 f2 f3 f4 f5 f6 f7 f8 f9 f10 f11)
        | (go_at_call 61; (with_reducible refine (G1.out _).mono ?_); rintro e w2 ⟨rfl, rfl⟩)
        | (go_at_call 61; (with_reducible refine (G2.out _).mono ?_); rintro e w2 ⟨rfl, rfl⟩)
        | (go_at_call 61; (with_reducible refine (G3.out _).mono ?_); rintro e w2 ⟨rfl, rfl⟩)
        | (go_at_call 61; (with_reducible refine (G4.out _).mono ?_); rintro e w2 ⟨rfl, rfl⟩)
        | (go_at_call 61; (with_reducible refine (G5.out _).mono ?_); rintro e w2 ⟨rfl, rfl⟩)
        | (go_at_call 20; (with_reducible refine (G6.out _).mono ?_); rintro e w3 ⟨rfl, hb3⟩; replace hX := hX.below hb3 hX.lt; replace hb2 := hb2.trans (hb3.mono hb2.size); clear hb3 f1 f2 f3 f4 f5 f6 f7 f8 f9 f10 f11; have f1 := hX.cell 1; have f2 := hX.cell 2; have f3 := hX.cell 3; have f4 := hX.cell 4; have f5 := hX.cell 5; have f6 := hX.cell 6; have f7 := hX.cell 7; have f8 := hX.cell 8; have f9 := hX.cell 9; have f10 := hX.cell 10; have f11 := hX.cell 11; simp only [List.getElem?_cons_succ, List.getElem?_cons_zero] at f1 f2 f3 f4 f5 f6 f7 f8 f9 f10 f11))
    all_goals
      go_ret
      refine ⟨ret_bool ?_, hb2⟩
      simp_all
  · have q1 : 512 < (picks.length : Int) := by omega
    go_enter Tryz.func28, Tryz.ntmps28
    go_wp2_with (go_at_call 71; refine (HN.out _).mono ?_; rintro e w1 ⟨rfl, hb1⟩; have hX := hBox.below hb1 hBox.lt; have hb2 := hB0.trans (hb1.mono (by simp)); have f1 := hX.cell 1; have f2 := hX.cell 2; have f3 := hX.cell 3; have f4 := hX.cell 4; have f5 := hX.cell 5; have f6 := hX.cell 6; have f7 := hX.cell 7; have f8 := hX.cell 8; have f9 := hX.cell 9; have f10 := hX.cell 10; have f11 := hX.cell 11; simp only [List.getElem?_cons_succ, List.getElem?_cons_zero] at f1 f2 f3 f4 f5 f6 f7 f8 f9 f10 f11)
    go_ret
    exact ⟨ret_bool (by simp [h1]), hb2⟩
theorem refmaya_out (kd : Int) (hk : kd < 1 ∨ 12 < kd) (node source nn : Int) (k : Int) (m : Nat) (key til value : ByteArray) (level : Int) (lsn : Nat) (picks : List Int) (pa : Option Addr) (pc : Nat) (w : World) :
    Calls Tryz.prog 28 #[.agg #[.int .i64 kd, .int .i64 node, .int .i64 source, .int .i64 nn, .int .i64 k, .int .u64 (m : Int), .string key, .string til, .string value, .int .i64 level, .int .u64 (lsn : Int), .slice pa picks.length pc]] w fun e w' => e = .returned (.bool false) ∧ Below w.heap.size w w' := by
  have hBox := Blk.new w 39 [.int .i64 kd, .int .i64 node, .int .i64 source, .int .i64 nn, .int .i64 k, .int .u64 (m : Int), .string key, .string til, .string value, .int .i64 level, .int .u64 (lsn : Int), .slice pa picks.length pc]
  have hB0 : Below w.heap.size w (w.alloc (.cells [.int .i64 kd, .int .i64 node, .int .i64 source, .int .i64 nn, .int .i64 k, .int .u64 (m : Int), .string key, .string til, .string value, .int .i64 level, .int .u64 (lsn : Int), .slice pa picks.length pc].toArray 39)) := (Below.refl _ w).alloc (Nat.le_refl _) _
  have c0 : (w.alloc (.cells [.int .i64 kd, .int .i64 node, .int .i64 source, .int .i64 nn, .int .i64 k, .int .u64 (m : Int), .string key, .string til, .string value, .int .i64 level, .int .u64 (lsn : Int), .slice pa picks.length pc].toArray 39)).cell? ⟨w.heap.size, 0, none⟩ = some (.int .i64 kd) := hBox.cell 0
  have HN := Lib.hid (rap_out kd hk)
  clear hk
  go_enter Tryz.func28, Tryz.ntmps28
  go_wp2_with (go_at_call 71; refine (HN.out _).mono ?_; rintro e w1 ⟨rfl, hb1⟩; have hb2 := hB0.trans (hb1.mono (by simp)))
  go_ret
  exact ⟨rfl, hb2⟩
theorem refmaya_any (a : Ar) (pa : Option Addr) (pc : Nat) (w : World) : Calls Tryz.prog 28 #[.agg (actCells a (.slice pa a.picks.length pc)).toArray] w fun e w' => e = .returned (.bool (mayAct a)) ∧ Below w.heap.size w w' := by
  obtain ⟨kd, node, source, nn, ⟨k, m, key, til, value, level, lsn⟩, picks⟩ := a
  by_cases hk : 1 ≤ kd ∧ kd ≤ 12
  · obtain ⟨x, rfl, _⟩ := actName_nm hk.1 hk.2
    refine (refmaya_in x node source nn k m key til value level lsn picks pa pc w).mono fun e w' ⟨he, hb⟩ => ⟨?_, hb⟩
    obtain ⟨mm, hm, hp⟩ := partsA_mask x
    rw [he, mayAP_mask hp, ← mayAct_some (a := ⟨1 + (x.val : Int), node, source, nn, ⟨k, m, key, til, value, level, lsn⟩, picks⟩) hm]
  · refine (refmaya_out kd (by omega) node source nn k m key til value level lsn picks pa pc w).mono fun e w' ⟨he, hb⟩ => ⟨?_, hb⟩
    have hn : getI ofActL kd = none := getI_none (by omega)
    rw [he, mayAct_none (a := ⟨kd, node, source, nn, ⟨k, m, key, til, value, level, lsn⟩, picks⟩) hn]
end Go.Proofs.YtgplaeopcejmoaaGreatDoor
