/- The walk of the document's Much: has a script more than is gone through? -/
import Derived.Test.YtgplaeopcejmoaaGreatDoorActs
import Derived.Test.YtgplaeopcejmoaaGreatDoorScr
namespace Go.Proofs.YtgplaeopcejmoaaGreatDoor
open Go.RowKit Go.Shelf

def scrCells (s : Scr) (pv : Value) : List Value := [.int .i64 s.set.nodes, .int .i64 s.set.capacity, .int .i64 s.set.frames, .int .i64 s.set.quorum, .int .i64 s.set.delay, pv]
def weigh (a : Ar) : Nat := a.op.key.size + a.op.til.size + a.op.value.size + a.picks.length
def weighs (l : List Ar) : Nat := (l.map weigh).sum
structure Few (s : Scr) : Prop where
  len : s.acts.length ≤ 200
  small : ∀ a ∈ s.acts, smallA a
  sum : weighs s.acts ≤ 60000
theorem weighs_next {l : List Ar} {k : Nat} {a : Ar} (h : l[k]? = some a) : weighs (l.take (k + 1)) = weighs (l.take k) + weigh a := by
  unfold weighs
  rw [List.take_add_one, h]
  simp
theorem weigh_small {a : Ar} (h : smallA a) : weigh a ≤ 8000 := by
  obtain ⟨h1, h2, h3, h4⟩ := h
  unfold weigh; omega
theorem weighs_small (l : List Ar) : (∀ a ∈ l, smallA a) → weighs l ≤ l.length * 8000 := by
  induction l with
  | nil => intro _; exact Nat.le_refl _
  | cons a l ih =>
    intro h
    have h1 := ih (fun b hb => h b (by simp [hb]))
    have h2 := weigh_small (h a (by simp))
    unfold weighs at h1 ⊢
    rw [List.map_cons, List.sum_cons, List.length_cons]; omega
def muchR (s : Scr) (e : Ending) : Prop := ∃ b, e = .returned (.bool b) ∧ (b = false → Few s)
theorem muchR_t (s : Scr) : muchR s (.returned (.bool true)) := ⟨true, rfl, fun h => by cases h⟩
theorem muchR_f {s : Scr} (h : Few s) : muchR s (.returned (.bool false)) := ⟨false, rfl, fun _ => h⟩
theorem scr_info : (Tryz.prog.info? 39).map (·.size) = some 12 := by kernel_rfl

set_option maxRecDepth 100000 in
set_option maxHeartbeats 4000000 in
theorem much_any (s : Scr) (pa : Option Addr) (pc : Nat) (w : World) (hA : ActsAt w pa s.acts) :
    Calls Tryz.prog 32 #[.agg (scrCells s (.slice pa s.acts.length pc)).toArray] w fun e w' => muchR s e ∧ Below w.heap.size w w' := by
  have hB := Blk.new w 63 (scrCells s (.slice pa s.acts.length pc))
  have hb : Below w.heap.size w (w.alloc (.cells (scrCells s (.slice pa s.acts.length pc)).toArray 63)) := (Below.refl _ w).alloc (Nat.le_refl _) _
  have hA1 := hA.below hb
  have HA := Lib.hid hA1
  clear hA hA1
  obtain ⟨⟨nodes, capacity, frames, quorum, delay⟩, acts⟩ := s
  simp only [scrCells] at hB hb HA ⊢
  have c5 := hB.cell 5
  have HB := Lib.hid hB
  clear hB
  by_cases h200 : 200 < acts.length
  · have g : (200 : Int) < (acts.length : Int) := by omega
    go_enter Tryz.func32, Tryz.ntmps32
    go_wp2
    go_ret
    exact ⟨muchR_t _, hb⟩
  have g : ¬ (200 : Int) < (acts.length : Int) := by omega
  go_enter Tryz.func32, Tryz.ntmps32
  go_wp2
  clear g
  go_loopw [3, 4] (fun n i wr => ∃ k : Nat, k ≤ acts.length ∧ i = .int .i64 k ∧ n = .int .i64 (weighs (acts.take k)) ∧ Below w.heap.size w wr ∧ Hid (Blk wr w.heap.size 63 [.int .i64 nodes, .int .i64 capacity, .int .i64 frames, .int .i64 quorum, .int .i64 delay, .slice pa acts.length pc]) ∧ Hid (ActsAt wr pa acts) ∧ Hid (∀ a ∈ acts.take k, smallA a)) (fun _ i _ => acts.length - (intOf i).toNat)
  case atStart => exact ⟨0, Nat.zero_le _, rfl, rfl, hb, HB, HA, Lib.hid (by simp)⟩
  case round =>
    clear c5 hb HB HA
    obtain ⟨k, hk, rfl, rfl, hb, HB, HA, HS⟩ := hrel
    have c5 : wr.cell? ⟨w.heap.size, 5, none⟩ = some (.slice pa acts.length pc) := HB.out.cell 5
    by_cases hlt : k < acts.length
    · have hne : acts ≠ [] := fun e => by rw [e] at hlt; simp at hlt
      obtain ⟨a, ha⟩ : ∃ a, acts[k]? = some a := ⟨_, List.getElem?_eq_getElem hlt⟩
      obtain ⟨g, o, rfl, hg, hc⟩ := HA.out hne
      obtain ⟨pa2, pc2, hr, hp⟩ := hc k a ha
      have HX := Lib.hid ha
      have HR := Lib.hid hr
      clear hc ha hr hp hne
      have hlt2 : (k : Int) < (acts.length : Int) := by omega
      by_cases hs : smallA a
      · obtain ⟨s1, s2, s3, s4⟩ := hs
        have hsum := weighs_next HX.out
        have hwk : weighs (acts.take k) ≤ k * 8000 := by
          have := weighs_small (acts.take k) HS.out
          rw [List.length_take] at this
          omega
        have hwg : weigh a = a.op.key.size + a.op.til.size + a.op.value.size + a.picks.length := rfl
        have HSUM := Lib.hid hsum
        have HWG := Lib.hid hwg
        clear hsum hwg
        have HS1 := Lib.hid (show smallA a from ⟨s1, s2, s3, s4⟩)
        generalize weighs (acts.take k) = q at *
        go_wp2_with (first
          | (refine wpList_load_mid rfl 39 (.tmp 19) rfl g (o + k * 12) rfl (actCells a (.slice pa2 a.picks.length pc2)) _ HR.out Tryz.underlying39 rfl scr_info ?_)
          | (go_at_call 16; refine (great_no a HS1.out pa2 pc2 _).mono ?_; rintro e w1 ⟨rfl, hb1⟩
             have hr2 := rangeAt_below HR.out hb1 hg
             have q6 : w1.cell? ⟨g, o + k * 12 + 6, none⟩ = some (.string a.op.key) := hr2 6 _ rfl
             have q7 : w1.cell? ⟨g, o + k * 12 + 7, none⟩ = some (.string a.op.til) := hr2 7 _ rfl
             have q8 : w1.cell? ⟨g, o + k * 12 + 8, none⟩ = some (.string a.op.value) := hr2 8 _ rfl
             have q11 : w1.cell? ⟨g, o + k * 12 + 11, none⟩ = some (.slice pa2 a.picks.length pc2) := hr2 11 _ rfl
             have c5' : w1.cell? ⟨w.heap.size, 5, none⟩ = some (.slice (some ⟨g, o, none⟩) acts.length pc) := (hb1.cell (p := ⟨w.heap.size, 5, none⟩) HB.out.lt).trans c5
             clear hr2))
        go_quiet (fail)
        go_wp2
        go_roundw
        case rel =>
          refine ⟨k + 1, by omega, by go_num, ?_, hb.trans ((below_drewN hb1 _).mono hb.size), Lib.hid (HB.out.below (below_drewN hb1 _) HB.out.lt), Lib.hid (HA.out.below (below_drewN hb1 _)), Lib.hid (fun b hb2 => ?_)⟩
          · have hw : ∀ n : Int, 0 ≤ n → n < 1000000000 → IntKind.i64.wrap n = n := fun n _ _ => by rw [IntKind.wrap_i64]; omega
            rw [HSUM.out, HWG.out, hw ((q : Int) + (a.op.key.size : Int)) (by omega) (by omega), hw ((q : Int) + (a.op.key.size : Int) + (a.op.til.size : Int)) (by omega) (by omega), hw ((q : Int) + (a.op.key.size : Int) + (a.op.til.size : Int) + (a.op.value.size : Int)) (by omega) (by omega), hw ((q : Int) + (a.op.key.size : Int) + (a.op.til.size : Int) + (a.op.value.size : Int) + (a.picks.length : Int)) (by omega) (by omega)]
            congr 1; omega
          · rw [List.take_add_one, HX.out] at hb2
            rcases List.mem_append.1 hb2 with h | h
            · exact HS.out b h
            · simp at h; rw [h]; exact HS1.out
        case measure => simp [intOf]; omega
      · have HN := Lib.hid hs
        clear hs
        go_wp2_with (first
          | (refine wpList_load_mid rfl 39 (.tmp 19) rfl g (o + k * 12) rfl (actCells a (.slice pa2 a.picks.length pc2)) _ HR.out Tryz.underlying39 rfl scr_info ?_)
          | (go_at_call 16; refine (great_yes a HN.out pa2 pc2 _).mono ?_; rintro e w1 ⟨rfl, hb1⟩))
        go_ret
        exact ⟨muchR_t _, hb.trans (hb1.mono hb.size)⟩
    · obtain rfl : k = acts.length := by omega
      have htk : acts.take acts.length = acts := List.take_length
      rw [htk]
      have HSS := HS.out
      rw [htk] at HSS
      have HS2 := Lib.hid HSS
      clear HSS htk
      by_cases hsum : 60000 < weighs acts
      · have gs : (60000 : Int) < (weighs acts : Int) := by omega
        clear hsum
        go_wp2
        go_ret
        exact ⟨muchR_t _, hb⟩
      · have gs : ¬ (60000 : Int) < (weighs acts : Int) := by omega
        go_wp2
        go_ret
        exact ⟨muchR_f ⟨by simp only; omega, HS2.out, by simp only; omega⟩, hb⟩
end Go.Proofs.YtgplaeopcejmoaaGreatDoor
