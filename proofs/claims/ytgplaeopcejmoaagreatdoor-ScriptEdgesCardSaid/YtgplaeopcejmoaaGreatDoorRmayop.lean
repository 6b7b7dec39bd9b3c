/- The walk of the document's MayOp. -/
import Derived.Test.YtgplaeopcejmoaaGreatDoorRound
import Derived.Test.YtgplaeopcejmoaaGreatDoorRnp
namespace Go.Proofs.YtgplaeopcejmoaaGreatDoor
open Go.RowKit

/-- what the document asks of an operation whose kind names the letters p -/
def mayP (p : ByteArray) (n lsn : Nat) (key til value : ByteArray) (level : Int) : Bool :=
  ((n : Int) == 0 || hasB p 110) && ((key.toList.isEmpty || hasB p 107) && ((til.toList.isEmpty || hasB p 116) && ((value.toList.isEmpty || hasB p 118) && ((level == 0 || hasB p 108) && ((lsn : Int) == 0 || hasB p 115)))))
def maskP (m : Int) (p : ByteArray) : Prop := hasF m 1 = hasB p 110 ∧ hasF m 2 = hasB p 115 ∧ hasF m 4 = hasB p 107 ∧ hasF m 8 = hasB p 116 ∧ hasF m 16 = hasB p 118 ∧ hasF m 32 = hasB p 108
theorem parts_mask : ∀ x : Fin 12, ∃ m, getI namedL (1 + (x.val : Int)) = some m ∧ maskP m (rnpPt x) := by
  intro x
  match x with
  | ⟨0, _⟩ => exact ⟨0, rfl, rfl, rfl, rfl, rfl, rfl, rfl⟩
  | ⟨1, _⟩ => exact ⟨5, rfl, rfl, rfl, rfl, rfl, rfl, rfl⟩
  | ⟨2, _⟩ => exact ⟨13, rfl, rfl, rfl, rfl, rfl, rfl, rfl⟩
  | ⟨3, _⟩ => exact ⟨21, rfl, rfl, rfl, rfl, rfl, rfl, rfl⟩
  | ⟨4, _⟩ => exact ⟨5, rfl, rfl, rfl, rfl, rfl, rfl, rfl⟩
  | ⟨5, _⟩ => exact ⟨1, rfl, rfl, rfl, rfl, rfl, rfl, rfl⟩
  | ⟨6, _⟩ => exact ⟨33, rfl, rfl, rfl, rfl, rfl, rfl, rfl⟩
  | ⟨7, _⟩ => exact ⟨33, rfl, rfl, rfl, rfl, rfl, rfl, rfl⟩
  | ⟨8, _⟩ => exact ⟨1, rfl, rfl, rfl, rfl, rfl, rfl, rfl⟩
  | ⟨9, _⟩ => exact ⟨34, rfl, rfl, rfl, rfl, rfl, rfl, rfl⟩
  | ⟨10, _⟩ => exact ⟨0, rfl, rfl, rfl, rfl, rfl, rfl, rfl⟩
  | ⟨11, _⟩ => exact ⟨0, rfl, rfl, rfl, rfl, rfl, rfl, rfl⟩
theorem nat_beq0 (n : Nat) : ((n : Int) == 0) = (n == 0) := by
  rw [Bool.eq_iff_iff]; simp
theorem mayP_mask {m : Int} {p : ByteArray} (h : maskP m p) (o : Opr) (h1 : o.key.size ≤ 512) (h2 : o.til.size ≤ 512) (h3 : o.value.size ≤ 512) : mayP p o.n o.lsn o.key o.til o.value o.level = mayW m o := by
  obtain ⟨a1, a2, a4, a8, a16, a32⟩ := h
  unfold mayP mayW
  rw [a1, a2, a4, a8, a16, a32, decide_eq_true h1, decide_eq_true h2, decide_eq_true h3, nat_beq0, nat_beq0]
  generalize (o.n == 0) = b1; generalize (o.lsn == 0) = b2; generalize o.key.toList.isEmpty = b3; generalize o.til.toList.isEmpty = b4; generalize o.value.toList.isEmpty = b5; generalize (o.level == 0) = b6
  generalize hasB p 110 = c1; generalize hasB p 115 = c2; generalize hasB p 107 = c3; generalize hasB p 116 = c4; generalize hasB p 118 = c5; generalize hasB p 108 = c6
  rw [Bool.or_comm b1 c1, Bool.or_comm b3 c3, Bool.or_comm b4 c4, Bool.or_comm b5 c5, Bool.or_comm b6 c6]
  cases b2 <;> cases c2 <;> simp [Bool.and_assoc]
theorem mayW_big {m : Int} {o : Opr} (h : ¬ (o.key.size ≤ 512 ∧ o.til.size ≤ 512 ∧ o.value.size ≤ 512)) : mayW m o = false := by
  unfold mayW
  by_cases h1 : o.key.size ≤ 512
  · by_cases h2 : o.til.size ≤ 512
    · have h3 : ¬ o.value.size ≤ 512 := fun e => h ⟨h1, h2, e⟩
      simp [h3]
    · simp [h2]
  · simp [h1]
theorem parts_size : ∀ x : Fin 12, (rnpPt x).size ≤ 3 := by decide
theorem nm_ne : ∀ x : Fin 12, (bs (nmAt x)).isEmpty = false := by decide
theorem nm_ne' (x : Fin 12) : (nmAt x).toList.isEmpty = false := by rw [toList_bs]; exact nm_ne x

set_option maxRecDepth 100000 in
set_option maxHeartbeats 8000000 in
theorem refmay_in (x : Fin 12) (n : Nat) (key til value : ByteArray) (level : Int) (lsn : Nat) (w : World) :
    Calls Tryz.prog 20 #[.agg #[.int .i64 (1 + (x.val : Int)), .int .u64 (n : Int), .string key, .string til, .string value, .int .i64 level, .int .u64 (lsn : Int)]] w fun e w' =>
      e = .returned (.bool (decide (key.size ≤ 512) && (decide (til.size ≤ 512) && (decide (value.size ≤ 512) && mayP (rnpPt x) n lsn key til value level)))) ∧ Below w.heap.size w w' := by
  have hBox := Blk.new w 34 (opCells ⟨1 + (x.val : Int), n, key, til, value, level, lsn⟩)
  have hB0 : Below w.heap.size w (w.alloc (.cells (opCells ⟨1 + (x.val : Int), n, key, til, value, level, lsn⟩).toArray 34)) := (Below.refl _ w).alloc (Nat.le_refl _) _
  have hN := rnp_in x
  obtain ⟨k, hk⟩ : ∃ k : Int, 1 + (x.val : Int) = k := ⟨_, rfl⟩
  rw [hk] at hBox hB0 hN ⊢
  clear hk
  obtain ⟨nm, hnm⟩ : ∃ nm, nmAt x = nm := ⟨_, rfl⟩
  have hne := nm_ne' x
  obtain ⟨p, hp⟩ : ∃ p, rnpPt x = p := ⟨_, rfl⟩
  have hN2 : ∀ W, Calls Tryz.prog 21 #[.int .i64 k] W fun e w' => e = .returned (.tuple #[.string nm, .string p]) ∧ Below W.heap.size W w' := fun W => by
    rw [← hnm, ← hp]; exact hN W
  have hps : p.size ≤ 1000000 := by rw [← hp]; exact Nat.le_trans (parts_size x) (by decide)
  rw [hnm] at hne
  rw [hp]
  have HN := Lib.hid hN2
  clear hN hN2 hnm hp
  have c0 : (w.alloc (.cells (opCells ⟨k, n, key, til, value, level, lsn⟩).toArray 34)).cell? ⟨w.heap.size, 0, none⟩ = some (.int .i64 k) := hBox.cell 0
  have g1 : ∀ W, Calls Tryz.prog 61 #[.string p, .int .u8 110] W fun e w' => e = .returned (.bool (hasB p 110)) ∧ W = w' := rhas_any p 110 hps
  have g2 : ∀ W, Calls Tryz.prog 61 #[.string p, .int .u8 107] W fun e w' => e = .returned (.bool (hasB p 107)) ∧ W = w' := rhas_any p 107 hps
  have g3 : ∀ W, Calls Tryz.prog 61 #[.string p, .int .u8 116] W fun e w' => e = .returned (.bool (hasB p 116)) ∧ W = w' := rhas_any p 116 hps
  have g4 : ∀ W, Calls Tryz.prog 61 #[.string p, .int .u8 118] W fun e w' => e = .returned (.bool (hasB p 118)) ∧ W = w' := rhas_any p 118 hps
  have g5 : ∀ W, Calls Tryz.prog 61 #[.string p, .int .u8 108] W fun e w' => e = .returned (.bool (hasB p 108)) ∧ W = w' := rhas_any p 108 hps
  have g6 : ∀ W, Calls Tryz.prog 61 #[.string p, .int .u8 115] W fun e w' => e = .returned (.bool (hasB p 115)) ∧ W = w' := rhas_any p 115 hps
  unfold mayP
  generalize hasB p 110 = b1 at *
  generalize hasB p 107 = b2 at *
  generalize hasB p 116 = b3 at *
  generalize hasB p 118 = b4 at *
  generalize hasB p 108 = b5 at *
  generalize hasB p 115 = b6 at *
  have G1 := Lib.hid g1; have G2 := Lib.hid g2; have G3 := Lib.hid g3; have G4 := Lib.hid g4; have G5 := Lib.hid g5; have G6 := Lib.hid g6
  clear g1 g2 g3 g4 g5 g6
  by_cases h1 : key.size ≤ 512
  · have q1 : ¬ 512 < (key.size : Int) := by omega
    by_cases h2 : til.size ≤ 512
    · have q2 : ¬ 512 < (til.size : Int) := by omega
      by_cases h3 : value.size ≤ 512
      · have q3 : ¬ 512 < (value.size : Int) := by omega
        rw [decide_eq_true h1, decide_eq_true h2, decide_eq_true h3]
        clear h1 h2 h3
        go_enter Tryz.func20, Tryz.ntmps20
        go_wp2_with (first
          | (go_at_call 21; refine (HN.out _).mono ?_; rintro e w1 ⟨rfl, hb1⟩; have hX := hBox.below hb1 hBox.lt; have hb2 := hB0.trans (hb1.mono (by simp)); have f1 := hX.cell 1; have f2 := hX.cell 2; have f3 := hX.cell 3; have f4 := hX.cell 4; have f5 := hX.cell 5; have f6 := hX.cell 6; simp only [opCells, List.getElem?_cons_succ, List.getElem?_cons_zero] at f1 f2 f3 f4 f5 f6)
          | (go_at_call 61; (with_reducible refine (G1.out _).mono ?_); rintro e w2 ⟨rfl, rfl⟩)
          | (go_at_call 61; (with_reducible refine (G2.out _).mono ?_); rintro e w2 ⟨rfl, rfl⟩)
          | (go_at_call 61; (with_reducible refine (G3.out _).mono ?_); rintro e w2 ⟨rfl, rfl⟩)
          | (go_at_call 61; (with_reducible refine (G4.out _).mono ?_); rintro e w2 ⟨rfl, rfl⟩)
          | (go_at_call 61; (with_reducible refine (G5.out _).mono ?_); rintro e w2 ⟨rfl, rfl⟩)
          | (go_at_call 61; (with_reducible refine (G6.out _).mono ?_); rintro e w2 ⟨rfl, rfl⟩))
        all_goals
          go_ret
          refine ⟨ret_bool ?_, hb2⟩
          simp_all
      · have q3 : 512 < (value.size : Int) := by omega
        go_enter Tryz.func20, Tryz.ntmps20
        go_wp2_with (go_at_call 21; refine (HN.out _).mono ?_; rintro e w1 ⟨rfl, hb1⟩; have hX := hBox.below hb1 hBox.lt; have hb2 := hB0.trans (hb1.mono (by simp)); have f1 := hX.cell 1; have f2 := hX.cell 2; have f3 := hX.cell 3; have f4 := hX.cell 4; have f5 := hX.cell 5; have f6 := hX.cell 6; simp only [opCells, List.getElem?_cons_succ, List.getElem?_cons_zero] at f1 f2 f3 f4 f5 f6)
        go_ret
        exact ⟨ret_bool (by simp [h3]), hb2⟩
    · have q2 : 512 < (til.size : Int) := by omega
      go_enter Tryz.func20, Tryz.ntmps20
      go_wp2_with (go_at_call 21; refine (HN.out _).mono ?_; rintro e w1 ⟨rfl, hb1⟩; have hX := hBox.below hb1 hBox.lt; have hb2 := hB0.trans (hb1.mono (by simp)); have f1 := hX.cell 1; have f2 := hX.cell 2; have f3 := hX.cell 3; have f4 := hX.cell 4; have f5 := hX.cell 5; have f6 := hX.cell 6; simp only [opCells, List.getElem?_cons_succ, List.getElem?_cons_zero] at f1 f2 f3 f4 f5 f6)
      go_ret
      exact ⟨ret_bool (by simp [h2]), hb2⟩
  · have q1 : 512 < (key.size : Int) := by omega
    go_enter Tryz.func20, Tryz.ntmps20
    go_wp2_with (go_at_call 21; refine (HN.out _).mono ?_; rintro e w1 ⟨rfl, hb1⟩; have hX := hBox.below hb1 hBox.lt; have hb2 := hB0.trans (hb1.mono (by simp)); have f1 := hX.cell 1; have f2 := hX.cell 2; have f3 := hX.cell 3; have f4 := hX.cell 4; have f5 := hX.cell 5; have f6 := hX.cell 6; simp only [opCells, List.getElem?_cons_succ, List.getElem?_cons_zero] at f1 f2 f3 f4 f5 f6)
    go_ret
    exact ⟨ret_bool (by simp [h1]), hb2⟩

theorem refmay_out (k : Int) (hk : k < 1 ∨ 12 < k) (n : Nat) (key til value : ByteArray) (level : Int) (lsn : Nat) (w : World) :
    Calls Tryz.prog 20 #[.agg #[.int .i64 k, .int .u64 (n : Int), .string key, .string til, .string value, .int .i64 level, .int .u64 (lsn : Int)]] w fun e w' => e = .returned (.bool false) ∧ Below w.heap.size w w' := by
  have hBox := Blk.new w 34 (opCells ⟨k, n, key, til, value, level, lsn⟩)
  have hB0 : Below w.heap.size w (w.alloc (.cells (opCells ⟨k, n, key, til, value, level, lsn⟩).toArray 34)) := (Below.refl _ w).alloc (Nat.le_refl _) _
  have c0 : (w.alloc (.cells (opCells ⟨k, n, key, til, value, level, lsn⟩).toArray 34)).cell? ⟨w.heap.size, 0, none⟩ = some (.int .i64 k) := hBox.cell 0
  have HN := Lib.hid (rnp_out k hk)
  clear hk
  go_enter Tryz.func20, Tryz.ntmps20
  go_wp2_with (go_at_call 21; refine (HN.out _).mono ?_; rintro e w1 ⟨rfl, hb1⟩; have hb2 := hB0.trans (hb1.mono (by simp)))
  go_ret
  exact ⟨rfl, hb2⟩
theorem refmay_any (o : Opr) (w : World) : Calls Tryz.prog 20 #[opV o] w fun e w' => e = .returned (.bool (mayOp o)) ∧ Below w.heap.size w w' := by
  obtain ⟨k, n, key, til, value, level, lsn⟩ := o
  by_cases hk : 1 ≤ k ∧ k ≤ 12
  · obtain ⟨x, rfl, _⟩ := opName_nm hk.1 hk.2
    refine (refmay_in x n key til value level lsn w).mono fun e w' ⟨he, hb⟩ => ⟨?_, hb⟩
    rw [he]
    refine ret_bool ?_
    obtain ⟨m, hm, hp⟩ := parts_mask x
    rw [mayOp_some (o := ⟨1 + (x.val : Int), n, key, til, value, level, lsn⟩) hm]
    by_cases hs : key.size ≤ 512 ∧ til.size ≤ 512 ∧ value.size ≤ 512
    · rw [← mayP_mask hp _ hs.1 hs.2.1 hs.2.2, decide_eq_true hs.1, decide_eq_true hs.2.1, decide_eq_true hs.2.2]; rfl
    · rw [mayW_big hs]
      by_cases h1 : key.size ≤ 512
      · by_cases h2 : til.size ≤ 512
        · have h3 : ¬ value.size ≤ 512 := fun e => hs ⟨h1, h2, e⟩
          simp [h3]
        · simp [h2]
      · simp [h1]
  · refine (refmay_out k (by omega) n key til value level lsn w).mono fun e w' ⟨he, hb⟩ => ⟨?_, hb⟩
    rw [he]
    have hn : getI namedL k = none := by
      cases hg : getI namedL k with
      | none => rfl
      | some m => exact absurd (named_range hg) hk
    rw [mayOp_none (o := ⟨k, n, key, til, value, level, lsn⟩) hn]
end Go.Proofs.YtgplaeopcejmoaaGreatDoor
