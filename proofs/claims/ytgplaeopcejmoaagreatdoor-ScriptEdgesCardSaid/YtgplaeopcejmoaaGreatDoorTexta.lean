/- The walk of script.Text. -/
import Derived.Test.YtgplaeopcejmoaaGreatDoorCmay
import Derived.Test.YtgplaeopcejmoaaGreatDoorBound
import Derived.Test.YtgplaeopcejmoaaGreatDoorDeed
namespace Go.Proofs.YtgplaeopcejmoaaGreatDoor
open Go.RowKit Go.Shelf

def setupV (b i : Nat) : Value := .tuple #[.string (setNm i), .pointer (some ⟨b, i, none⟩)]
set_option maxRecDepth 100000 in
theorem setup_any (b i : Nat) (hi : i < 5) (w : World) : Calls Tryz.prog 76 #[.pointer (some ⟨b, 0, none⟩), .int .i64 i] w fun e w' => e = .returned (setupV b i) ∧ Below w.heap.size w w' := by
  have hb := Below.refl w.heap.size w
  match i, hi with
  | 0, _ =>
    go_enter Tryz.func76, Tryz.ntmps76
    go_wp2
    go_quiet (fail)
    go_wp2
    go_ret2
    exact ⟨rfl, below_drewN hb _⟩
  | 1, _ =>
    go_enter Tryz.func76, Tryz.ntmps76
    go_wp2
    go_quiet (fail)
    go_wp2
    go_ret2
    exact ⟨rfl, below_drewN hb _⟩
  | 2, _ =>
    go_enter Tryz.func76, Tryz.ntmps76
    go_wp2
    go_quiet (fail)
    go_wp2
    go_ret2
    exact ⟨rfl, below_drewN hb _⟩
  | 3, _ =>
    go_enter Tryz.func76, Tryz.ntmps76
    go_wp2
    go_quiet (fail)
    go_wp2
    go_ret2
    exact ⟨rfl, below_drewN hb _⟩
  | 4, _ =>
    go_enter Tryz.func76, Tryz.ntmps76
    go_wp2
    go_quiet (fail)
    go_wp2
    go_ret2
    exact ⟨rfl, below_drewN hb _⟩
theorem enters75 : ∀ args w, (callFunc 75 args).run Tryz.prog w = .ok (.enter 75 args) w := enters_of Tryz.func75 (by kernel_rfl) rfl

set_option maxRecDepth 100000 in
set_option maxHeartbeats 1000000 in
theorem notmay_any (a : Ar) (pa : Option Addr) (pc : Nat) (w : World) : Calls Tryz.prog 75 #[.agg (actCells a (.slice pa a.picks.length pc)).toArray] w fun e w' => e = .returned (.bool (!mayAct a)) ∧ Below w.heap.size w w' := by
  have hC := fun W => mayact_v a pa pc W
  have HC := Lib.hid hC
  clear hC
  have hB := Blk.new w 39 (actCells a (.slice pa a.picks.length pc))
  have hb : Below w.heap.size w (w.alloc (.cells (actCells a (.slice pa a.picks.length pc)).toArray 39)) := (Below.refl _ w).alloc (Nat.le_refl _) _
  have hR : (w.alloc (.cells (actCells a (.slice pa a.picks.length pc)).toArray 39)).rangeAt w.heap.size 0 (actCells a (.slice pa a.picks.length pc)) := fun j v hv => by
    rw [Nat.zero_add]; exact (hB.cell j).trans hv
  have HR := Lib.hid hR
  clear hB hR
  go_enter Tryz.func75, Tryz.ntmps75
  go_wp2_with (first
    | (refine wpList_load_mid rfl 39 (.tmp 1) rfl w.heap.size 0 rfl (actCells a (.slice pa a.picks.length pc)) _ HR.out Tryz.underlying39 rfl scr_info ?_)
    | (go_at_call 27; refine (HC.out _).mono ?_; rintro e w1 ⟨rfl, hb1⟩))
  go_ret
  exact ⟨rfl, hb.trans (hb1.mono hb.size)⟩
/-- the first act that may not be told -/
def badAt (l : List Ar) (e : Ending) : Prop := ∃ r : Int, e = .returned (.int .i64 r) ∧ ((0 ≤ r) ↔ l.all mayAct = false)
theorem badAt_no {l : List Ar} (h : ∀ a ∈ l, mayAct a = true) : badAt l (.returned (.int .i64 (-1))) := ⟨-1, rfl, by
  have : l.all mayAct = true := List.all_eq_true.2 h
  rw [this]; simp⟩
theorem badAt_yes {l : List Ar} {k : Nat} {a : Ar} (h : l[k]? = some a) (hm : mayAct a = false) : badAt l (.returned (.int .i64 k)) := ⟨k, rfl, by
  have : l.all mayAct = false := by
    rw [List.all_eq_false]
    exact ⟨a, List.mem_of_getElem? h, by rw [hm]; simp⟩
  rw [this]; simp⟩
set_option maxRecDepth 100000 in
set_option maxHeartbeats 4000000 in
theorem indexf_any (l : List Ar) (pa : Option Addr) (pc : Nat) (w : World) (hA : ActsAt w pa l) (hl : l.length ≤ 1000000000) :
    Calls Tryz.prog 101 #[.slice pa l.length pc, .func (.func 75) #[] #[]] w fun e w' => badAt l e ∧ Below w.heap.size w w' := by
  have HA := Lib.hid hA
  clear hA
  have hb := Below.refl w.heap.size w
  have eg := enters75
  go_enter Tryz.func101, Tryz.ntmps101
  go_wp2
  go_loopw [8] (fun i wr => ∃ k : Nat, k ≤ l.length ∧ i = .int .i64 k ∧ Below w.heap.size w wr ∧ Hid (ActsAt wr pa l) ∧ Hid (∀ a ∈ l.take k, mayAct a = true)) (fun i _ => l.length - (intOf i).toNat)
  case atStart => exact ⟨0, Nat.zero_le _, rfl, hb, HA, Lib.hid (by simp)⟩
  case round =>
    clear hb HA
    obtain ⟨k, hk, rfl, hb, HA, HS⟩ := hrel
    by_cases hlt : k < l.length
    · have hne : l ≠ [] := fun e => by rw [e] at hlt; simp at hlt
      obtain ⟨a, ha⟩ : ∃ a, l[k]? = some a := ⟨_, List.getElem?_eq_getElem hlt⟩
      obtain ⟨g, o, rfl, hg, hc⟩ := HA.out hne
      obtain ⟨pa2, pc2, hr, hp⟩ := hc k a ha
      have HX := Lib.hid ha
      have HR := Lib.hid hr
      have hC := fun W => notmay_any a pa2 pc2 W
      have HC := Lib.hid hC
      clear hc ha hr hp hne hC
      have hlt2 : (k : Int) < (l.length : Int) := by omega
      cases hm : mayAct a with
      | true =>
        rw [hm] at HC
        have HM := Lib.hid hm
        clear hm
        go_wp2_with (first
          | (refine wpList_load_mid rfl 39 (.tmp 14) rfl g (o + k * 12) rfl (actCells a (.slice pa2 a.picks.length pc2)) _ HR.out Tryz.underlying39 rfl scr_info ?_)
          | (go_at_fn 75; refine (HC.out _).mono ?_; rintro e w1 ⟨rfl, hb1⟩))
        go_roundw
        case rel =>
          refine ⟨k + 1, by omega, by go_num, hb.trans (hb1.mono hb.size), Lib.hid (HA.out.below hb1), Lib.hid (fun b hb2 => ?_)⟩
          rw [List.take_add_one, HX.out] at hb2
          rcases List.mem_append.1 hb2 with h | h
          · exact HS.out b h
          · simp at h; rw [h]; exact HM.out
        case measure => simp [intOf]; omega
      | false =>
        rw [hm] at HC
        have HM := Lib.hid hm
        clear hm
        go_wp2_with (first
          | (refine wpList_load_mid rfl 39 (.tmp 14) rfl g (o + k * 12) rfl (actCells a (.slice pa2 a.picks.length pc2)) _ HR.out Tryz.underlying39 rfl scr_info ?_)
          | (go_at_fn 75; refine (HC.out _).mono ?_; rintro e w1 ⟨rfl, hb1⟩))
        go_ret
        exact ⟨badAt_yes HX.out HM.out, hb.trans (hb1.mono hb.size)⟩
    · obtain rfl : k = l.length := by omega
      have HSS := HS.out
      rw [List.take_length] at HSS
      have HS2 := Lib.hid HSS
      clear HSS
      go_wp2
      go_ret
      exact ⟨badAt_no HS2.out, hb⟩
set_option maxRecDepth 100000 in
set_option maxHeartbeats 4000000 in
theorem containsf_any (l : List Ar) (pa : Option Addr) (pc : Nat) (w : World) (hA : ActsAt w pa l) (hl : l.length ≤ 1000000000) :
    Calls Tryz.prog 74 #[.slice pa l.length pc, .func (.func 75) #[] #[]] w fun e w' => e = .returned (.bool (!l.all mayAct)) ∧ Below w.heap.size w w' := by
  have hI := indexf_any l pa pc w hA hl
  have HI := Lib.hid hI
  clear hI hA
  go_enter Tryz.func74, Tryz.ntmps74
  go_wp2_with (go_at_call 101; refine HI.out.mono ?_; rintro e w1 ⟨⟨r, rfl, hr⟩, hb1⟩; have HR := Lib.hid hr; clear hr)
  go_ret
  refine ⟨ret_bool ?_, hb1⟩
  have := HR.out
  cases h : l.all mayAct with
  | true => rw [h] at this; simp at this ⊢; omega
  | false => rw [h] at this; simp at this ⊢; omega

theorem ret_txt (l : Bs) (n : Int) : Ending.returned (.tuple #[.string ⟨l.toArray⟩, .int .i64 n]) = .returned (.tuple #[.string (txt l), .int .i64 n]) := rfl
def textR (s : Scr) : Value := if mayScr s then (if 65536 < s.acts.length then .tuple #[.string ⟨#[]⟩, .int .i64 3] else .tuple #[.string (scrText s), .int .i64 0]) else .tuple #[.string ⟨#[]⟩, .int .i64 2]
theorem lnB_len : ∀ (l r : List ByteArray), (lnB l).length ≤ (lnB (l ++ r)).length := fun l r => by rw [lnB_app, List.length_append]; omega
theorem byteCells_snoc (l r : Bs) : Lib.byteCells (l ++ r) = Lib.byteCells l ++ Lib.byteCells r := byteCells_app l r
set_option maxRecDepth 100000 in
set_option maxHeartbeats 4000000 in
theorem text_any (s : Scr) (ok : ScrOk s) (pa : Option Addr) (pc : Nat) (w : World) (hA : ActsAt w pa s.acts) (hl : s.acts.length ≤ 1000000) (hz : mayScr s = true → 65536 < s.acts.length ∨ (lnB (scrLines s)).length ≤ 4194304) (henv : Env w) :
    Calls Tryz.prog 33 #[.agg (scrCells s (.slice pa s.acts.length pc)).toArray] w fun e w' => e = .returned (textR s) ∧ Below w.heap.size w w' := by
  have hB := Blk.new w 63 (scrCells s (.slice pa s.acts.length pc))
  have hb : Below w.heap.size w (w.alloc (.cells (scrCells s (.slice pa s.acts.length pc)).toArray 63)) := (Below.refl _ w).alloc (Nat.le_refl _) _
  have HA := Lib.hid (hA.below hb)
  have HE := Lib.hid henv
  have hcm := fun W => cmay_any s.set W
  have HC := Lib.hid hcm
  clear hA henv hcm
  have hcf := fun (W : World) (h : ActsAt W pa s.acts) => containsf_any s.acts pa pc W h (by omega)
  have HF := Lib.hid hcf
  clear hcf
  cases hm : maySet s.set with
  | false =>
    have ht : textR s = .tuple #[.string ⟨#[]⟩, .int .i64 2] := by unfold textR mayScr; rw [hm]; rfl
    rw [hm] at HC
    rw [ht]
    clear hm ht hz ok
    obtain ⟨⟨nodes, capacity, frames, quorum, delay⟩, acts⟩ := s
    simp only [scrCells, supV, supCells] at *
    have c0 := hB.cell 0; have c1 := hB.cell 1; have c2 := hB.cell 2; have c3 := hB.cell 3; have c4 := hB.cell 4; have c5 := hB.cell 5
    clear hB
    go_enter Tryz.func33, Tryz.ntmps33
    go_wp2_with (go_at_call 73; refine (HC.out _).mono ?_; rintro e w1 ⟨rfl, hb1⟩)
    go_ret2
    exact ⟨rfl, hb.trans (hb1.mono hb.size)⟩
  | true =>
    rw [hm] at HC
    cases ha : s.acts.all mayAct with
    | false =>
      have ht : textR s = .tuple #[.string ⟨#[]⟩, .int .i64 2] := by unfold textR mayScr; rw [hm, ha]; rfl
      rw [ha] at HF
      rw [ht]
      clear hm ht hz ok ha
      obtain ⟨⟨nodes, capacity, frames, quorum, delay⟩, acts⟩ := s
      simp only [scrCells, supV, supCells] at *
      have c0 := hB.cell 0; have c1 := hB.cell 1; have c2 := hB.cell 2; have c3 := hB.cell 3; have c4 := hB.cell 4; have c5 := hB.cell 5
      have HB := Lib.hid hB
      clear hB
      go_enter Tryz.func33, Tryz.ntmps33
      go_wp2_with (first
        | (go_at_call 73; refine (HC.out _).mono ?_; rintro e w1 ⟨rfl, hb1⟩; have HA1 := Lib.hid (HA.out.below hb1); have d5 : w1.cell? ⟨w.heap.size, 5, none⟩ = some (.slice pa acts.length pc) := (hb1.cell (p := ⟨w.heap.size, 5, none⟩) HB.out.lt).trans c5)
        | (go_at_call 74; refine (HF.out _ HA1.out).mono ?_; rintro e w2 ⟨rfl, hb2⟩))
      go_ret2
      exact ⟨rfl, (hb.trans (hb1.mono hb.size)).trans (hb2.mono (Nat.le_trans hb.size hb1.size))⟩
    | true =>
      rw [ha] at HF
      have hall : ∀ a ∈ s.acts, mayAct a = true ∧ ActOk a := fun a h => ⟨List.all_eq_true.1 ha a h, ok.acts a h⟩
      have HALL := Lib.hid hall
      clear hall
      by_cases hbig : 65536 < s.acts.length
      · have ht : textR s = .tuple #[.string ⟨#[]⟩, .int .i64 3] := by unfold textR mayScr; rw [hm, ha]; simp [hbig]
        rw [ht]
        clear hm ht hz ok ha HALL
        obtain ⟨⟨nodes, capacity, frames, quorum, delay⟩, acts⟩ := s
        simp only [scrCells, supV, supCells] at *
        have c0 := hB.cell 0; have c1 := hB.cell 1; have c2 := hB.cell 2; have c3 := hB.cell 3; have c4 := hB.cell 4; have c5 := hB.cell 5
        have HB := Lib.hid hB
        have gb : (65536 : Int) < (acts.length : Int) := by omega
        clear hB
        go_enter Tryz.func33, Tryz.ntmps33
        go_wp2_with (first
          | (go_at_call 73; refine (HC.out _).mono ?_; rintro e w1 ⟨rfl, hb1⟩; have HA1 := Lib.hid (HA.out.below hb1); have d5 : w1.cell? ⟨w.heap.size, 5, none⟩ = some (.slice pa acts.length pc) := (hb1.cell (p := ⟨w.heap.size, 5, none⟩) HB.out.lt).trans c5)
          | (go_at_call 74; refine (HF.out _ HA1.out).mono ?_; rintro e w2 ⟨rfl, hb2⟩; have e5 : w2.cell? ⟨w.heap.size, 5, none⟩ = some (.slice pa acts.length pc) := (hb2.cell (p := ⟨w.heap.size, 5, none⟩) (Nat.lt_of_lt_of_le HB.out.lt hb1.size)).trans d5))
        go_ret2
        exact ⟨rfl, (hb.trans (hb1.mono hb.size)).trans (hb2.mono (Nat.le_trans hb.size hb1.size))⟩
      · have ht : textR s = .tuple #[.string (scrText s), .int .i64 0] := by unfold textR mayScr; rw [hm, ha]; simp [hbig]
        rw [ht]
        have hz2 : (lnB (scrLines s)).length ≤ 4194304 := by
          have := hz (by unfold mayScr; rw [hm, ha]; rfl)
          omega
        have hlm : ∀ k, (lnB ((scrLines s).take k)).length ≤ 4194304 := fun k => by
          have := lnB_len ((scrLines s).take k) ((scrLines s).drop k)
          rw [List.take_append_drop] at this; omega
        have h1 : ∀ k, k < 5 → lnB ((scrLines s).take (k + 1)) = lnB ((scrLines s).take k) ++ (bs (setLine s.set k) ++ [10]) := fun k hk => by
          have e : (scrLines s)[k]? = some (setLine s.set k) := by
            match k, hk with
            | 0, _ => rfl
            | 1, _ => rfl
            | 2, _ => rfl
            | 3, _ => rfl
            | 4, _ => rfl
          rw [List.take_add_one, e]; exact lnB_snoc _ _
        have h2 : ∀ j a, s.acts[j]? = some a → lnB ((scrLines s).take (5 + (j + 1))) = lnB ((scrLines s).take (5 + j)) ++ (bs (actText a) ++ [10]) := fun j a h => by
          have e : (scrLines s)[5 + j]? = some (actText a) := by
            unfold scrLines
            rw [List.getElem?_append_right (by simp), List.length_map, List.length_range, Nat.add_sub_cancel_left, List.getElem?_map, h]; rfl
          rw [← Nat.add_assoc, List.take_add_one, e]; exact lnB_snoc _ _
        have h3 : lnB ((scrLines s).take (5 + s.acts.length)) = lnB (scrLines s) := by
          rw [List.take_of_length_le (by unfold scrLines; simp)]
        have hso := maySet_ok hm
        have H1 := Lib.hid h1; have H2 := Lib.hid h2; have H3 := Lib.hid h3; have HLM := Lib.hid hlm; have HSO := Lib.hid hso
        clear hm ht hz hz2 ok ha hlm h1 h2 h3 hso
        have hst : scrText s = txt (lnB (scrLines s)) := rfl
        rw [hst]
        clear hst
        generalize hLT : (fun k => lnB ((scrLines s).take k)) = T
        have e1 : ∀ k, lnB ((scrLines s).take k) = T k := fun k => by rw [← hLT]
        simp only [e1] at H1 H2 H3 HLM
        have e0 : T 0 = [] := by rw [← e1]; rfl
        have E0 := Lib.hid e0
        clear e1 hLT e0
        rw [← H3.out]
        obtain ⟨⟨nodes, capacity, frames, quorum, delay⟩, acts⟩ := s
        simp only [scrCells, supV, supCells] at *
        have c0 := hB.cell 0; have c1 := hB.cell 1; have c2 := hB.cell 2; have c3 := hB.cell 3; have c4 := hB.cell 4; have c5 := hB.cell 5
        have HB := Lib.hid hB
        have gb : ¬ (65536 : Int) < (acts.length : Int) := by omega
        clear hB
        go_enter Tryz.func33, Tryz.ntmps33
        go_wp2_with (first
          | (go_at_call 73; refine (HC.out _).mono ?_; rintro e w1 ⟨rfl, hb1⟩; have HA1 := Lib.hid (HA.out.below hb1); have HB1 := Lib.hid (HB.out.below hb1 HB.out.lt); have d5 : w1.cell? ⟨w.heap.size, 5, none⟩ = some (.slice pa acts.length pc) := HB1.out.cell 5)
          | (go_at_call 74; refine (HF.out _ HA1.out).mono ?_; rintro e w2 ⟨rfl, hb2⟩; have HA2 := Lib.hid (HA1.out.below hb2); have HB2 := Lib.hid (HB1.out.below hb2 HB1.out.lt); have e5 : w2.cell? ⟨w.heap.size, 5, none⟩ = some (.slice pa acts.length pc) := HB2.out.cell 5))
        have hB2 : Below w.heap.size w w2 := (hb.trans (hb1.mono hb.size)).trans (hb2.mono (Nat.le_trans hb.size hb1.size))
        have hib0 : Lib.IsBuilder 89 5 w2.heap.size w2.heap.size (Lib.byteCells []) (w2.alloc (.cells #[.pointer none, .slice none 0 0] 89)) :=
          .inl ⟨Nat.le_refl _, .slice none 0 0, heap_alloc_new w2 _, World.ownsRow_nil _ _ _ _, by simp [Value.ownBlock]⟩
        clear c0 c1 c2 c3 c4 c5 d5 e5 hb1 hb2 HA HB HA1 HB1 HC HF
        go_loopw [25] (fun i wr => ∃ k : Nat, k ≤ 5 ∧ i = .int .i64 k ∧ Hid (Lib.IsBuilder 89 5 w2.heap.size w2.heap.size (Lib.byteCells (T k)) wr) ∧ Below w2.heap.size w2 wr) (fun i _ => 5 - (intOf i).toNat)
        case atStart => exact ⟨0, by omega, rfl, Lib.hid (by rw [E0.out]; exact hib0), (Below.refl _ _).alloc (Nat.le_refl _) _⟩
        case round =>
          obtain ⟨k, hk, rfl, hib, hbr⟩ := hrel
          by_cases hlt : k < 5
          · have hlt2 : (k : Int) < 5 := by omega
            have HAr := Lib.hid (HA2.out.below hbr)
            have HBr := Lib.hid (HB2.out.below hbr HB2.out.lt)
            have HEr := Lib.hid (HE.out.below (hB2.trans (hbr.mono hB2.size)))
            obtain ⟨n, hn⟩ : ∃ n, setNs ⟨nodes, capacity, frames, quorum, delay⟩ k = n := ⟨_, rfl⟩
            have hnr := HSO.out k
            rw [hn] at hnr
            obtain ⟨n1, n2⟩ := hnr
            have hq : ∀ W, Blk W w.heap.size 63 [.int .i64 nodes, .int .i64 capacity, .int .i64 frames, .int .i64 quorum, .int .i64 delay, .slice pa acts.length pc] → W.cell? ⟨w.heap.size, k, none⟩ = some (.int .i64 n) := fun W h => by
              rw [← hn, h.cell k]
              match k, hlt with
              | 0, _ => rfl
              | 1, _ => rfl
              | 2, _ => rfl
              | 3, _ => rfl
              | 4, _ => rfl
            have HQ := Lib.hid hq
            have hT := H1.out k hlt
            have hsl : setLine ⟨nodes, capacity, frames, quorum, delay⟩ k = joinS [setNm k, ito n] := by unfold setLine; rw [hn]
            rw [hsl, joinS_two] at hT
            have HT := Lib.hid hT
            have hTl := HLM.out (k + 1)
            have hTk : (T (k + 1)).length = (T k).length + ((setNm k).size + (Lib.itoa n).length + 2) := by
              rw [hT]
              simp only [List.length_append, List.length_cons, List.length_nil, bs_length, bs_ito']; omega
            have g9 : ¬ 9223372036854775807 < (setNm k).size + 1 + (Lib.itoa n).length + 1 := by omega
            have g8 : ¬ 9223372036854775807 < (setNm k).size + 1 + (Lib.itoa n).length := by omega
            have hcat : (setNm k ++ ⟨#[32]⟩ ++ ⟨(Lib.itoa n).toArray⟩ ++ ⟨#[10]⟩ : ByteArray).data.toList = bs (setNm k) ++ 32 :: bs (ito n) ++ [10] := by rw [bs_ito']; simp
            have hz9 : (T k).length + (setNm k ++ ⟨#[32]⟩ ++ ⟨(Lib.itoa n).toArray⟩ ++ ⟨#[10]⟩ : ByteArray).size ≤ 140737488355328 := by
              rw [← bs_length (setNm k ++ ⟨#[32]⟩ ++ ⟨(Lib.itoa n).toArray⟩ ++ ⟨#[10]⟩), show bs (setNm k ++ ⟨#[32]⟩ ++ ⟨(Lib.itoa n).toArray⟩ ++ ⟨#[10]⟩) = bs (setNm k) ++ 32 :: bs (ito n) ++ [10] from hcat]
              simp only [List.length_append, List.length_cons, List.length_nil, bs_length, bs_ito']; omega
            have HCAT := Lib.hid hcat
            have HZ9 := Lib.hid hz9
            clear hq hn hT hsl hcat hz9
            go_wp2_with (first
              | (go_at_call 76; refine (setup_any w.heap.size k hlt _).mono ?_; rintro e w3 ⟨rfl, hb3⟩; rw [show setupV w.heap.size k = .tuple #[.string (setNm k), .pointer (some ⟨w.heap.size, k, none⟩)] from rfl]; have hib3 := Lib.hid (builder_below hib.out hb3); have q3 := HQ.out _ (HBr.out.below hb3 HBr.out.lt); have hE3 := Lib.hid (HEr.out.below hb3); have HX3 := hbr.trans (hb3.mono hbr.size))
              | (go_at_call 55; refine (itoa_any n n1 n2 _ hE3.out).mono ?_; rintro e w4 ⟨rfl, hb4⟩; have hib4 := Lib.hid (builder_below hib3.out hb4); have HX4 := HX3.trans (hb4.mono HX3.size))
              | (go_at_call 48; refine (Tryz.Builder_WriteString w2.heap.size w2.heap.size _ _ _ hib4.out (by rw [Lib.byteCells_length]; exact HZ9.out) HX4.size).mono ?_; rintro e w5 ⟨rfl, hib5, hb5⟩))
            go_roundw
            case rel =>
              refine ⟨k + 1, by omega, by go_num, Lib.hid (.inr ?_), HX4.trans hb5⟩
              rw [HT.out, byteCells_app]
              rw [Lib.strCells_eq, HCAT.out] at hib5
              exact hib5
            case measure => simp [intOf]; omega
          · obtain rfl : k = 5 := by omega
            rw [show ((5 : Nat) : Int) = 5 from rfl]
            have HAr := Lib.hid (HA2.out.below hbr)
            have HBr := Lib.hid (HB2.out.below hbr HB2.out.lt)
            have e5 : wr.cell? ⟨w.heap.size, 5, none⟩ = some (.slice pa acts.length pc) := HBr.out.cell 5
            go_wp2_with fail
            clear e5
            go_loopw [47] (fun i wx => ∃ k : Nat, k ≤ acts.length ∧ i = .int .i64 k ∧ Hid (Lib.IsBuilder 89 5 w2.heap.size w2.heap.size (Lib.byteCells (T (5 + k))) wx) ∧ Below w2.heap.size w2 wx) (fun i _ => acts.length - (intOf i).toNat)
            case atStart => exact ⟨0, Nat.zero_le _, rfl, hib, hbr⟩
            case round =>
              clear hib hbr HAr HBr
              obtain ⟨k, hk, rfl, hib, hbr⟩ := hrel
              by_cases hlt : k < acts.length
              · have hne : acts ≠ [] := fun e => by rw [e] at hlt; simp at hlt
                obtain ⟨a, ha⟩ : ∃ a, acts[k]? = some a := ⟨_, List.getElem?_eq_getElem hlt⟩
                have HAr := Lib.hid (HA2.out.below hbr)
                have HEr := Lib.hid (HE.out.below (hB2.trans (hbr.mono hB2.size)))
                obtain ⟨g, o, rfl, hg, hc⟩ := HAr.out hne
                obtain ⟨pa2, pc2, hr, hp⟩ := hc k a ha
                obtain ⟨hma, hoa⟩ := HALL.out a (List.mem_of_getElem? ha)
                have HX := Lib.hid ha
                have HR := Lib.hid hr
                have hT := H2.out k a ha
                have HT := Lib.hid hT
                have hTl := HLM.out (5 + (k + 1))
                have hTk : (T (5 + (k + 1))).length = (T (5 + k)).length + ((actText a).size + 1) := by
                  rw [hT]
                  simp only [List.length_append, List.length_cons, List.length_nil, bs_length]
                have htr : actTextR a = .tuple #[.string (actText a), .int .i64 0] := by unfold actTextR; rw [hma]; rfl
                have hcall : ∀ W, Env W → PkAt W pa2 a.picks → Calls Tryz.prog 18 #[.agg (actCells a (.slice pa2 a.picks.length pc2)).toArray] W fun e w' => e = .returned (.tuple #[.string (actText a), .int .i64 0]) ∧ Below W.heap.size W w' := fun W h1 h2 =>
                  (acttext_any a hoa pa2 pc2 W (h2.picks (Nat.le_refl _)) h2.form h1).mono fun _ _ ⟨he, hb⟩ => ⟨by rw [he, htr], hb⟩
                have HCL := Lib.hid hcall
                have HPK := Lib.hid hp
                clear hc ha hr hp hne hT htr hcall hma hoa
                generalize actText a = t at *
                have g9 : ¬ 9223372036854775807 < t.size + 1 := by omega
                have hcat : (t ++ ⟨#[10]⟩ : ByteArray).data.toList = bs t ++ [10] := by simp
                have hz9 : (T (5 + k)).length + (t ++ ⟨#[10]⟩ : ByteArray).size ≤ 140737488355328 := by
                  rw [← bs_length (t ++ ⟨#[10]⟩), show bs (t ++ ⟨#[10]⟩) = bs t ++ [10] from hcat]
                  simp only [List.length_append, List.length_cons, List.length_nil, bs_length]; omega
                have HCAT := Lib.hid hcat
                have HZ9 := Lib.hid hz9
                clear hcat hz9
                have hlt2 : (k : Int) < (acts.length : Int) := by omega
                have g7 : ¬ (4194304 : Int) < ((T (5 + (k + 1))).length : Int) := by omega
                have hw3 : ∀ Z : Obj, Below wr.heap.size wr ((wr.alloc Z).setRow wr.heap.size (actCells a (.slice pa2 a.picks.length pc2)).toArray) := fun Z => below_setRow ((Below.refl _ wr).alloc (Nat.le_refl _) _) (Nat.le_refl _) _
                have hr3 : ∀ Z : Array Value, ((wr.alloc (.cells Z 39)).setRow wr.heap.size (actCells a (.slice pa2 a.picks.length pc2)).toArray).rangeAt wr.heap.size 0 (actCells a (.slice pa2 a.picks.length pc2)) := fun Z j v hv => by
                  have hB3 : Blk ((wr.alloc (.cells Z 39)).setRow wr.heap.size (actCells a (.slice pa2 a.picks.length pc2)).toArray) wr.heap.size 39 (actCells a (.slice pa2 a.picks.length pc2)) := setRow_heap _ _ Z _ _ _ (heap_alloc_new wr _)
                  rw [Nat.zero_add]; exact (hB3.cell j).trans hv
                have HW3 := Lib.hid hw3
                have HR3 := Lib.hid hr3
                clear hw3 hr3 hTk hTl
                generalize hT1 : T (5 + (k + 1)) = T1 at *
                have HT1 := Lib.hid hT1
                clear hT1
                go_wp2_with (first
                  | (refine wpList_load_mid rfl 39 (.tmp 49) rfl g (o + k * 12) rfl (actCells a (.slice pa2 a.picks.length pc2)) _ HR.out Tryz.underlying39 rfl scr_info ?_)
                  | (refine wpList_store_row rfl 39 (.tmp 9) (.tmp 50) rfl wr.heap.size (actCells a (.slice pa2 a.picks.length pc2)).toArray rfl rfl 39 _ (heap_alloc_new wr _) infoAct rfl (actCells_one _ _ _ _) ?_)
                  | (refine wpList_load_mid rfl 39 (.tmp 9) rfl wr.heap.size 0 rfl (actCells a (.slice pa2 a.picks.length pc2)) _ (HR3.out _) Tryz.underlying39 rfl scr_info ?_)
                  | (go_at_call 18; refine (HCL.out _ (HEr.out.below (HW3.out _)) (HPK.out.below (HW3.out _))).mono ?_; rintro e w4 ⟨rfl, hb4⟩; have hB4 := (HW3.out _).trans (hb4.mono (HW3.out _).size); have hib4 := Lib.hid (builder_below hib.out hB4); have HX4 := hbr.trans (hB4.mono hbr.size))
                  | (go_at_call 48; refine (Tryz.Builder_WriteString w2.heap.size w2.heap.size _ _ _ hib4.out (by rw [Lib.byteCells_length]; exact HZ9.out) HX4.size).mono ?_; rintro e w5 ⟨rfl, hib5, hb5⟩; rw [Lib.strCells_eq, HCAT.out, ← byteCells_app, ← HT.out] at hib5)
                  | (go_at_call 77; refine (Tryz.Builder_Len w2.heap.size w2.heap.size _ _ (.inr hib5)).mono ?_; rintro e w6 ⟨rfl, rfl⟩; rw [Lib.byteCells_length]))
                go_roundw
                case rel => exact ⟨k + 1, by omega, by go_num, Lib.hid (by rw [HT1.out]; exact .inr hib5), HX4.trans hb5⟩
                case measure => simp [intOf]; omega
              · obtain rfl : k = acts.length := by omega
                have hlt2 : ¬ (acts.length : Int) < (acts.length : Int) := by omega
                go_wp2_with (go_at_call 50; refine (Tryz.Builder_String_any w2.heap.size w2.heap.size _ _ hib.out hbr.size).mono ?_; rintro e w4 ⟨rfl, hb4⟩)
                go_ret2
                exact ⟨ret_txt (T (5 + acts.length)) 0, hB2.trans ((hbr.trans hb4).mono hB2.size)⟩
end Go.Proofs.YtgplaeopcejmoaaGreatDoor
