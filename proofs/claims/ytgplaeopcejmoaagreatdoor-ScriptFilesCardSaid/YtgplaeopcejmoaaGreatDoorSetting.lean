/- The document's small parts: Words, Numbers, Setup, Setting. -/
import Derived.Test.YtgplaeopcejmoaaGreatDoorTexta
import Derived.Test.YtgplaeopcejmoaaGreatDoorRaofw
import Derived.Test.YtgplaeopcejmoaaGreatDoorBound
import Derived.Test.YtgplaeopcejmoaaGreatDoorSameb
namespace Go.Proofs.YtgplaeopcejmoaaGreatDoor
open Go.RowKit Go.Shelf

theorem infoSup : (Tryz.prog.info? 60).map (·.size) = some 5 := by kernel_rfl
def setNms : List ByteArray := [setNm 0, setNm 1, setNm 2, setNm 3, setNm 4]
theorem setNms_at {i : Nat} (h : i < 5) : (setNms.map Value.string)[i]? = some (.string (setNm i)) := by
  match i, h with
  | 0, _ => rfl
  | 1, _ => rfl
  | 2, _ => rfl
  | 3, _ => rfl
  | 4, _ => rfl
set_option maxRecDepth 100000 in
theorem words_any (w : World) : Calls Tryz.prog 84 #[] w fun e w' => e = .returned (.slice (some ⟨w.heap.size, 0, none⟩) 5 5) ∧ w' = w.alloc (.cells (setNms.map Value.string).toArray 9) := by
  go_enter Tryz.func84, Tryz.ntmps84
  go_wp2
  go_ret
  exact ⟨rfl, rfl⟩
theorem words_x (w : World) : Calls Tryz.prog 84 #[] w fun e w' => ∃ g, e = .returned (.slice (some ⟨g, 0, none⟩) 5 5) ∧ Blk w' g 9 (setNms.map Value.string) ∧ w.heap.size ≤ g ∧ Below w.heap.size w w' :=
  (words_any w).mono fun _ _ ⟨he, hw⟩ => ⟨_, he, by rw [hw]; exact Blk.new w 9 _, Nat.le_refl _, by rw [hw]; exact (Below.refl _ _).alloc (Nat.le_refl _) _⟩
def setL5 (s : Sup) : List Value := [.int .i64 s.nodes, .int .i64 s.capacity, .int .i64 s.frames, .int .i64 s.quorum, .int .i64 s.delay]
theorem setL5_at (s : Sup) {i : Nat} (h : i < 5) : (setL5 s)[i]? = some (.int .i64 (setNs s i)) := by
  match i, h with
  | 0, _ => rfl
  | 1, _ => rfl
  | 2, _ => rfl
  | 3, _ => rfl
  | 4, _ => rfl
set_option maxRecDepth 100000 in
theorem numbers_any (s : Sup) (w : World) : Calls Tryz.prog 86 #[supV s] w fun e w' => ∃ g, e = .returned (.slice (some ⟨g, 0, none⟩) 5 5) ∧ Blk w' g 3 (setL5 s) ∧ w.heap.size ≤ g ∧ Below w.heap.size w w' := by
  have hB := Blk.new w 60 (supCells s)
  have hb : Below w.heap.size w (w.alloc (.cells (supCells s).toArray 60)) := (Below.refl _ w).alloc (Nat.le_refl _) _
  have hN := Blk.new (w.alloc (.cells (supCells s).toArray 60)) 3 (setL5 s)
  have hb2 := hb.alloc hb.size (.cells (setL5 s).toArray 3)
  rw [World.size_alloc] at hN
  have HN := Lib.hid hN
  have HB2 := Lib.hid hb2
  clear hN hb2
  obtain ⟨nodes, capacity, frames, quorum, delay⟩ := s
  simp only [supCells, supV] at *
  have c0 := hB.cell 0; have c1 := hB.cell 1; have c2 := hB.cell 2; have c3 := hB.cell 3; have c4 := hB.cell 4
  clear hB
  go_enter Tryz.func86, Tryz.ntmps86
  go_wp2
  go_ret
  exact ⟨_, rfl, HN.out, Nat.le_succ _, HB2.out⟩
set_option maxRecDepth 100000 in
set_option maxHeartbeats 2000000 in
theorem rsetup_any (s : Sup) (g c : Nat) (w : World) (h : Blk w g 3 (setL5 s)) : Calls Tryz.prog 85 #[.slice (some ⟨g, 0, none⟩) 5 c] w fun e w' => e = .returned (supV s) ∧ Below w.heap.size w w' := by
  have hR := Blk.new w 60 [.int .i64 0, .int .i64 0, .int .i64 0, .int .i64 0, .int .i64 0]
  have hb : Below w.heap.size w (w.alloc (.cells [.int .i64 0, .int .i64 0, .int .i64 0, .int .i64 0, .int .i64 0].toArray 60)) := (Below.refl _ w).alloc (Nat.le_refl _) _
  have h' := h.alloc (.cells [.int .i64 0, .int .i64 0, .int .i64 0, .int .i64 0, .int .i64 0].toArray 60)
  obtain ⟨nodes, capacity, frames, quorum, delay⟩ := s
  simp only [setL5, supV, supCells] at *
  have c0 := h'.cell 0; have c1 := h'.cell 1; have c2 := h'.cell 2; have c3 := h'.cell 3; have c4 := h'.cell 4
  have r0 := hR.cell 0; have r1 := hR.cell 1; have r2 := hR.cell 2; have r3 := hR.cell 3; have r4 := hR.cell 4
  have f0 := hR.frozen 0; have f1 := hR.frozen 1; have f2 := hR.frozen 2; have f3 := hR.frozen 3; have f4 := hR.frozen 4
  go_enter Tryz.func85, Tryz.ntmps85
  go_wp2
  go_region
  go_wp2
  refine bodyPost_ret (results_row_one rfl _ _ w.heap.size 60 #[.int .i64 nodes, .int .i64 capacity, .int .i64 frames, .int .i64 quorum, .int .i64 delay] (0, 0) _ rfl (Blk.new w 60 [.int .i64 nodes, .int .i64 capacity, .int .i64 frames, .int .i64 quorum, .int .i64 delay]) Tryz.underlying60 rfl infoSup) rfl ?_
  exact ⟨rfl, ((Below.refl w.heap.size w).alloc (Nat.le_refl _) _).drew⟩
/-! ### Setting -/
theorem wrapEq64 (x : Int) : IntKind.i64.wrap x = wrap64 x := by rw [IntKind.wrap_i64]; unfold wrap64; omega
def settingR (i : Nat) (x : ByteArray) (e : Ending) : Prop := (∃ n, setNum i x = some n ∧ e = .returned (.tuple #[.int .i64 n, .bool true])) ∨ (setNum i x = none ∧ ∃ n, e = .returned (.tuple #[.int .i64 n, .bool false]))
theorem cat_bs (i : Nat) (n : Int) : setNm i ++ ⟨#[32]⟩ ++ ⟨(Lib.itoa n).toArray⟩ = joinS [setNm i, ito n] := by
  apply bs_inj
  rw [joinS_two, bs_ito']
  simp
theorem setting_of {i : Nat} {x : ByteArray} {n : Int} (hn : IntOk n) (hu : ∀ m, IntOk m → x = joinS [setNm i, ito m] → n = m) : settingR i x (.returned (.tuple #[.int .i64 n, .bool (x.toList == (setNm i ++ ⟨#[32]⟩ ++ ⟨(Lib.itoa n).toArray⟩).toList)])) := by
  rw [cat_bs]
  by_cases h : x = joinS [setNm i, ito n]
  · left
    refine ⟨n, setNum_of hn h, ?_⟩
    rw [← h]; simp
  · right
    refine ⟨?_, n, ?_⟩
    · cases hs : setNum i x with
      | none => rfl
      | some m =>
        obtain ⟨h1, h2⟩ := setNum_back hs
        have := hu m h2 h1
        subst this
        exact absurd h1 h
    · have : (x.toList == (joinS [setNm i, ito n]).toList) = false := by simpa using fun e => h (toList_inj e)
      rw [this]
theorem num_cut {i : Nat} {x : ByteArray} {m : Int} (h : x = joinS [setNm i, ito m]) : x.extract ((setNm i).size + 1) x.size = ito m := by
  apply bs_inj
  have hz : x.size = (setNm i).size + 1 + (ito m).size := by
    rw [h, ← bs_length, joinS_two, List.length_append, List.length_cons, bs_length, bs_length]; omega
  have e : bs (setNm i) ++ 32 :: bs (ito m) = (bs (setNm i) ++ [32]) ++ bs (ito m) := by simp
  rw [bs_extract, hz, h, joinS_two, e, List.drop_left' (by rw [List.length_append, bs_length]; rfl), List.take_of_length_le (by rw [bs_length]; omega)]
set_option maxRecDepth 100000 in
set_option maxHeartbeats 2000000 in
theorem setting_any (i : Nat) (x : ByteArray) (hx : x.size ≤ 1000000) (w : World) (henv : Env w) : Calls Tryz.prog 83 #[.string x, .string (setNm i)] w fun e w' => settingR i x e ∧ Below w.heap.size w w' := by
  have h8 := setNm_size i
  have HE := Lib.hid henv
  have hb := Below.refl w.heap.size w
  clear henv
  by_cases hlt : (setNm i).size < x.size
  · have g1 : ((setNm i).size : Int) < (x.size : Int) := by omega
    go_enter Tryz.func83, Tryz.ntmps83
    go_wp2_with fail
    refine (rnum_any (x.extract ((setNm i).size + 1) x.size) (by rw [ByteArray.size_extract]; omega) _).mono ?_
    rintro e w1 ⟨⟨v, rfl, hv⟩, rfl⟩
    obtain ⟨n, hn⟩ : ∃ n, wrap64 (v : Int) = n := ⟨_, rfl⟩
    have hi : IntOk n := hn ▸ wrap_range _
    have hu : ∀ m, IntOk m → x = joinS [setNm i, ito m] → n = m := fun m hm hx => by
      rw [← hn]
      have := hv.2.2 m hm (num_cut hx)
      rw [wrapEq64] at this
      exact this
    have HI := Lib.hid hi
    have HU := Lib.hid hu
    have HN := Lib.hid hn
    have hz := ito_size hi.1 hi.2
    rw [← bs_length, bs_ito'] at hz
    have g8 : ¬ 9223372036854775807 < (setNm i).size + 1 + (Lib.itoa n).length := by omega
    clear hi hu hn hv hz
    go_wp2_with (go_at_call 55; rw [HN.out]; refine (itoa_any n HI.out.1 HI.out.2 _ HE.out).mono ?_; rintro e w4 ⟨rfl, hb4⟩)
    go_ret2
    exact ⟨setting_of HI.out HU.out, hb4⟩
  · have g1 : ¬ ((setNm i).size : Int) < (x.size : Int) := by omega
    have hu : ∀ m, IntOk m → x = joinS [setNm i, ito m] → 0 = m := fun m hm hx => by
      have hz : x.size = (setNm i).size + 1 + (ito m).size := by
        rw [hx, ← bs_length, joinS_two, List.length_append, List.length_cons, bs_length, bs_length]; omega
      omega
    have HU := Lib.hid hu
    have hi : IntOk 0 := by unfold IntOk; omega
    have hz := ito_size hi.1 hi.2
    rw [← bs_length, bs_ito'] at hz
    have g8 : ¬ 9223372036854775807 < (setNm i).size + 1 + (Lib.itoa 0).length := by omega
    have HI := Lib.hid hi
    clear hu hi hz
    go_enter Tryz.func83, Tryz.ntmps83
    go_wp2_with (go_at_call 55; refine (itoa_any 0 HI.out.1 HI.out.2 _ HE.out).mono ?_; rintro e w4 ⟨rfl, hb4⟩)
    go_ret2
    exact ⟨setting_of HI.out HU.out, hb4⟩
end Go.Proofs.YtgplaeopcejmoaaGreatDoor
