/- The walk of Told, the ways with a drawn region. -/
import Derived.Test.YtgplaeopcejmoaaDoorToldg
import Derived.Deep.RegionHeld3
namespace Go.Proofs.YtgplaeopcejmoaaDoor
open Go.RowKit Go.Shelf

set_option maxRecDepth 100000 in
set_option maxHeartbeats 4000000 in
theorem told_begin (a : An) (pv : Value) (hc : a.code = 0) (hn : a.n < 18446744073709551616) (hp : a.pos < 18446744073709551616) (w : World) (henv : Env w) :
    Calls Tryd.prog 11 #[.int .i64 1, .agg (anCells a pv).toArray] w fun e w' => e = .returned (.string (joinS [okB, dec a.n, dec a.pos])) ∧ Below w.heap.size w w' := by
  have hB := Blk.new w 32 (anCells a pv)
  have hb0 : Below w.heap.size w (w.alloc (.cells (anCells a pv).toArray 32)) := (Below.refl _ _).alloc (Nat.le_refl _) _
  have c0 : (w.alloc (.cells (anCells a pv).toArray 32)).cell? ⟨w.heap.size, 0, none⟩ = some (.int .i64 0) := hc ▸ hB.cell 0
  have hBW : Blk ((w.alloc (.cells (anCells a pv).toArray 32)).alloc (.cells #[.string ⟨#[111, 107]⟩] 9)) w.heap.size 32 (anCells a pv) := hB.alloc _
  have hoW : Blk ((w.alloc (.cells (anCells a pv).toArray 32)).alloc (.cells #[.string ⟨#[111, 107]⟩] 9)) (w.heap.size + 1) 9 [.string okB] := by
    have := Blk.new (w.alloc (.cells (anCells a pv).toArray 32)) 9 [.string okB]
    rw [World.size_alloc] at this
    exact this
  have hO : OwnS ((w.alloc (.cells (anCells a pv).toArray 32)).alloc (.cells #[.string ⟨#[111, 107]⟩] 9)) (w.heap.size + 1) (.slice (some ⟨w.heap.size + 1, 0, none⟩) 1 1) [okB] := ownS_row hoW (Nat.le_refl _)
  have hbW : Below w.heap.size w ((w.alloc (.cells (anCells a pv).toArray 32)).alloc (.cells #[.string ⟨#[111, 107]⟩] 9)) := hb0.alloc hb0.size _
  have c1 : ((w.alloc (.cells (anCells a pv).toArray 32)).alloc (.cells #[.string ⟨#[111, 107]⟩] 9)).cell? ⟨w.heap.size, 1, none⟩ = some (.int .u64 (a.n : Int)) := hBW.cell 1
  have c4 : ((w.alloc (.cells (anCells a pv).toArray 32)).alloc (.cells #[.string ⟨#[111, 107]⟩] 9)).cell? ⟨w.heap.size, 4, none⟩ = some (.int .u64 (a.pos : Int)) := hBW.cell 4
  obtain ⟨t, ht⟩ : ∃ t, dec a.n = t := ⟨_, rfl⟩
  obtain ⟨u, hu⟩ : ∃ u, dec a.pos = u := ⟨_, rfl⟩
  have htz : t.size ≤ 25 := by rw [← ht]; have := dec_size hn; omega
  have huz : u.size ≤ 25 := by rw [← hu]; have := dec_size hp; omega
  have hT3 : tot [okB, t, u] ≤ 4000000 := by
    have h1 := tot_cons okB [t, u]
    have h2 := tot_cons t [u]
    rw [tot_one] at h2
    have h3 : okB.size = 2 := rfl
    omega
  have HE := Lib.hid (henv.below hbW)
  have q : ∀ W, Env W → Calls Tryd.prog 27 #[.int .u64 (a.n : Int)] W fun e w' => e = .returned (.string t) ∧ Below W.heap.size W w' := fun W hW => by rw [← ht]; exact natural_any a.n hn W hW
  have q2 : ∀ W, Env W → Calls Tryd.prog 27 #[.int .u64 (a.pos : Int)] W fun e w' => e = .returned (.string u) ∧ Below W.heap.size W w' := fun W hW => by rw [← hu]; exact natural_any a.pos hp W hW
  rw [ht, hu]
  have HQ := Lib.hid q; have HQ2 := Lib.hid q2; have HBW := Lib.hid hBW; have HO := Lib.hid hO
  clear q q2 ht hu hB hoW hBW hO hb0
  go_enter Tryd.func11, Tryd.ntmps11
  go_wp2_with fail
  go_region_held3 (fun W => W.cell? ⟨w.heap.size, 1, none⟩ = some (.int .u64 (a.n : Int)) ∧ W.cell? ⟨w.heap.size, 4, none⟩ = some (.int .u64 (a.pos : Int))) (go_keep) (first
      | (go_at_call 27; (with_reducible refine (HQ.out _ ?_).mono ?_); (first | exact HE2.out | exact HE.out.drew); rintro e w1 ⟨rfl, hb1⟩; (try replace hb1 := below_undrew hb1); have HB1 : Below w.heap.size w w1 := (by first | exact HB2.trans (hb1.mono HB2.size) | exact hbW.trans (hb1.mono hbW.size)); have HO1 : Hid (OwnS w1 (w.heap.size + 1) (.slice (some ⟨w.heap.size + 1, 0, none⟩) 1 1) [okB]) := (by first | exact Lib.hid (HO2.out.below hb1) | exact Lib.hid (HO.out.below hb1)); have HX1 : Hid (Blk w1 w.heap.size 32 (anCells a pv)) := (by first | exact Lib.hid (HX2.out.below hb1 HX2.out.lt) | exact Lib.hid (HBW.out.below hb1 HBW.out.lt)); have HE1 : Hid (Env w1) := (by first | exact Lib.hid (HE2.out.below hb1) | exact Lib.hid (HE.out.below hb1)); have d1 : w1.cell? ⟨w.heap.size, 1, none⟩ = some (.int .u64 (a.n : Int)) := HX1.out.cell 1; have d4 : w1.cell? ⟨w.heap.size, 4, none⟩ = some (.int .u64 (a.pos : Int)) := HX1.out.cell 4; have z1 := HB1.size)
      | (go_at_call 27; (with_reducible refine (HQ2.out _ ?_).mono ?_); (first | exact HE1.out | exact HE.out.drew); rintro e w2 ⟨rfl, hb2⟩; (try replace hb2 := below_undrew hb2); have HB2 : Below w.heap.size w w2 := (by first | exact HB1.trans (hb2.mono HB1.size) | exact hbW.trans (hb2.mono hbW.size)); have HO2 : Hid (OwnS w2 (w.heap.size + 1) (.slice (some ⟨w.heap.size + 1, 0, none⟩) 1 1) [okB]) := (by first | exact Lib.hid (HO1.out.below hb2) | exact Lib.hid (HO.out.below hb2)); have HX2 : Hid (Blk w2 w.heap.size 32 (anCells a pv)) := (by first | exact Lib.hid (HX1.out.below hb2 HX1.out.lt) | exact Lib.hid (HBW.out.below hb2 HBW.out.lt)); have HE2 : Hid (Env w2) := (by first | exact Lib.hid (HE1.out.below hb2) | exact Lib.hid (HE.out.below hb2)); have d1 : w2.cell? ⟨w.heap.size, 1, none⟩ = some (.int .u64 (a.n : Int)) := HX2.out.cell 1; have d4 : w2.cell? ⟨w.heap.size, 4, none⟩ = some (.int .u64 (a.pos : Int)) := HX2.out.cell 4; have z2 := HB2.size)
      | (refine step_append_s rfl (.tmp 30) (.tmp 37) rfl (w.heap.size + 1) (.slice (some ⟨w.heap.size + 1, 0, none⟩) 1 1) [okB] ⟨w2.heap.size, 0, none⟩ 2 2 [t, u] (by rfl) (by rfl) (HO2.out.alloc _) (by simp) (by have := cell_lt d1; simp at this ⊢; omega) rfl (by omega) (news_s w2 [t, u]) ?_; intro v' w3 ho3 hg3; have HB3 : Below w.heap.size w w3 := (HB2.alloc HB2.size _).grown hg3 (by have := HB2.size; simp; omega) (fun i e => by have := own_size HO2.out i e; omega); have HX3 : Blk w3 w.heap.size 32 (anCells a pv) := (HX2.out.alloc _).grown hg3 (by simp [Value.ownBlock]); have d1 : w3.cell? ⟨w.heap.size, 1, none⟩ = some (.int .u64 (a.n : Int)) := HX3.cell 1; have d4 : w3.cell? ⟨w.heap.size, 4, none⟩ = some (.int .u64 (a.pos : Int)) := HX3.cell 4)
      | (refine step_append_s rfl (.tmp 30) (.tmp 37) rfl (w.heap.size + 1) (.slice (some ⟨w.heap.size + 1, 0, none⟩) 1 1) [okB] ⟨w1.heap.size, 0, none⟩ 2 2 [t, u] (by rfl) (by rfl) (HO1.out.alloc _) (by simp) (by have := cell_lt d1; simp at this ⊢; omega) rfl (by omega) (news_s w1 [t, u]) ?_; intro v' w3 ho3 hg3; have HB3 : Below w.heap.size w w3 := (HB1.alloc HB1.size _).grown hg3 (by have := HB1.size; simp; omega) (fun i e => by have := own_size HO1.out i e; omega); have HX3 : Blk w3 w.heap.size 32 (anCells a pv) := (HX1.out.alloc _).grown hg3 (by simp [Value.ownBlock]); have d1 : w3.cell? ⟨w.heap.size, 1, none⟩ = some (.int .u64 (a.n : Int)) := HX3.cell 1; have d4 : w3.cell? ⟨w.heap.size, 4, none⟩ = some (.int .u64 (a.pos : Int)) := HX3.cell 4))
  all_goals
    obtain ⟨g1, cap1, rfl, _, _⟩ := ho3.form (by simp)
    go_wp2_with (go_at_call 28; refine (join_own ho3 (by simp) (Nat.le_trans hT3 (by decide))).mono ?_; rintro e w4 ⟨rfl, hb4⟩)
    go_ret
    exact ⟨rfl, HB3.trans (hb4.mono HB3.size)⟩

/-- pairs that lie in memory -/
def PrAt (w : World) (A : Option Addr) (ps : List (ByteArray × ByteArray)) : Prop := ps ≠ [] → ∃ g o, A = some ⟨g, o, none⟩ ∧ g < w.heap.size ∧ ∀ j p, ps[j]? = some p → w.cell? ⟨g, o + j * 2, none⟩ = some (.string p.1) ∧ w.cell? ⟨g, o + j * 2 + 1, none⟩ = some (.string p.2)
theorem PrAt.below {w w' : World} {A : Option Addr} {ps : List (ByteArray × ByteArray)} (h : PrAt w A ps) (hb : Below w.heap.size w w') : PrAt w' A ps := fun hl => by
  obtain ⟨g, o, e, hg, hc⟩ := h hl
  exact ⟨g, o, e, Nat.lt_of_lt_of_le hg hb.size, fun j p hp => ⟨(hb.cell (p := ⟨g, o + j * 2, none⟩) hg).trans (hc j p hp).1, (hb.cell (p := ⟨g, o + j * 2 + 1, none⟩) hg).trans (hc j p hp).2⟩⟩
def pairW (p : ByteArray × ByteArray) : List ByteArray := [wtx p.1, wtx p.2]
theorem pairs_next {ps : List (ByteArray × ByteArray)} {j : Nat} {p : ByteArray × ByteArray} (h : ps[j]? = some p) : (ps.take (j + 1)).flatMap pairW = (ps.take j).flatMap pairW ++ [wtx p.1, wtx p.2] := by
  obtain ⟨hl, h⟩ := List.getElem?_eq_some_iff.1 h
  rw [List.take_succ_eq_append_getElem hl, List.flatMap_append, h]
  simp [pairW]
theorem wtx_size6 {s : ByteArray} (h : s.size ≤ 2000) : (wtx s).size ≤ 6002 := by
  have := wordL_length (bs s)
  rw [bs_length] at this
  show (wordL (bs s)).toArray.size ≤ _
  rw [List.size_toArray]; omega
theorem pairs_tot : ∀ ps : List (ByteArray × ByteArray), (∀ p ∈ ps, p.1.size ≤ 2000 ∧ p.2.size ≤ 2000) → tot (ps.flatMap pairW) ≤ 12004 * ps.length ∧ (ps.flatMap pairW).length = 2 * ps.length
  | [], _ => ⟨Nat.zero_le _, rfl⟩
  | p :: r, h => by
    have ih := pairs_tot r (fun q hq => h q (by simp [hq]))
    have hp := h p (by simp)
    have h1 := wtx_size6 hp.1
    have h2 := wtx_size6 hp.2
    rw [List.flatMap_cons]
    have e : tot (pairW p ++ r.flatMap pairW) = (wtx p.1).size + ((wtx p.2).size + tot (r.flatMap pairW)) := by
      show tot (wtx p.1 :: wtx p.2 :: r.flatMap pairW) = _
      rw [tot_cons, tot_cons]
    rw [e, List.length_append, ih.2, List.length_cons]
    refine ⟨?_, ?_⟩
    · have := ih.1; omega
    · show 2 + _ = _; omega

set_option maxRecDepth 100000 in
set_option maxHeartbeats 4000000 in
theorem told_scan (a : An) (A : Option Addr) (cp : Nat) (ps : List (ByteArray × ByteArray)) (hc : a.code = 0) (hl : ps.length ≤ 100) (hz : ∀ p ∈ ps, p.1.size ≤ 2000 ∧ p.2.size ≤ 2000) (w : World) (hP : PrAt w A ps) :
    Calls Tryd.prog 11 #[.int .i64 3, .agg (anCells a (.slice A ps.length cp)).toArray] w fun e w' => e = .returned (.string (joinS (okB :: ps.flatMap pairW))) ∧ Below w.heap.size w w' := by
  obtain ⟨pv, hpv⟩ : ∃ pv, Value.slice A ps.length cp = pv := ⟨_, rfl⟩
  rw [hpv]
  have hB := Blk.new w 32 (anCells a pv)
  have hb0 : Below w.heap.size w (w.alloc (.cells (anCells a pv).toArray 32)) := (Below.refl _ _).alloc (Nat.le_refl _) _
  have c0 : (w.alloc (.cells (anCells a pv).toArray 32)).cell? ⟨w.heap.size, 0, none⟩ = some (.int .i64 0) := hc ▸ hB.cell 0
  have hBW : Blk ((w.alloc (.cells (anCells a pv).toArray 32)).alloc (.cells #[.string ⟨#[111, 107]⟩] 9)) w.heap.size 32 (anCells a pv) := hB.alloc _
  have hoW : Blk ((w.alloc (.cells (anCells a pv).toArray 32)).alloc (.cells #[.string ⟨#[111, 107]⟩] 9)) (w.heap.size + 1) 9 [.string okB] := by
    have := Blk.new (w.alloc (.cells (anCells a pv).toArray 32)) 9 [.string okB]
    rw [World.size_alloc] at this
    exact this
  have hO : OwnS ((w.alloc (.cells (anCells a pv).toArray 32)).alloc (.cells #[.string ⟨#[111, 107]⟩] 9)) (w.heap.size + 1) (.slice (some ⟨w.heap.size + 1, 0, none⟩) 1 1) [okB] := ownS_row hoW (Nat.le_refl _)
  have hbW : Below w.heap.size w ((w.alloc (.cells (anCells a pv).toArray 32)).alloc (.cells #[.string ⟨#[111, 107]⟩] 9)) := hb0.alloc hb0.size _
  have c8 : ((w.alloc (.cells (anCells a pv).toArray 32)).alloc (.cells #[.string ⟨#[111, 107]⟩] 9)).cell? ⟨w.heap.size, 8, none⟩ = some (.slice A ps.length cp) := by rw [hpv]; exact hBW.cell 8
  have hT := pairs_tot ps hz
  have HT := Lib.hid hT
  have HZ := Lib.hid hz
  have HP := Lib.hid hP
  have HO := Lib.hid hO
  clear hT hz hP hO hoW hBW hB hpv hb0
  go_enter Tryd.func11, Tryd.ntmps11
  go_wp2_with fail
  go_loopw [6, 57] (fun v i wr => ∃ j : Nat, j ≤ ps.length ∧ i = .int .i64 j ∧ Hid (OwnS wr (w.heap.size + 1) v (okB :: (ps.take j).flatMap pairW)) ∧ Below w.heap.size w wr) (fun _ i _ => ps.length - (intOf i).toNat)
  case atStart => exact ⟨0, Nat.zero_le _, rfl, HO, hbW⟩
  case round =>
    obtain ⟨j, hj, rfl, HOj, hb⟩ := hrel
    clear c0 c8 hbW
    have hbs := hb.size
    by_cases hlt : j < ps.length
    · have hne : ps ≠ [] := fun e => by rw [e] at hlt; simp at hlt
      obtain ⟨⟨x, y⟩, hp⟩ : ∃ p, ps[j]? = some p := ⟨_, List.getElem?_eq_getElem hlt⟩
      obtain ⟨g, o, rfl, hg, hcc⟩ := HP.out hne
      have y1 : wr.cell? ⟨g, o + j * 2, none⟩ = some (.string x) := (hb.cell (p := ⟨g, o + j * 2, none⟩) hg).trans (hcc j _ hp).1
      have y2 : wr.cell? ⟨g, o + j * 2 + 1, none⟩ = some (.string y) := (hb.cell (p := ⟨g, o + j * 2 + 1, none⟩) hg).trans (hcc j _ hp).2
      have hzz := HZ.out _ (List.mem_of_getElem? hp)
      have hnx := pairs_next hp
      obtain ⟨t, ht⟩ : ∃ t, wtx x = t := ⟨_, rfl⟩
      obtain ⟨u, hu⟩ : ∃ u, wtx y = u := ⟨_, rfl⟩
      simp only at hzz hnx
      rw [ht, hu] at hnx
      have hll : ((ps.take j).flatMap pairW).length ≤ 200 := by
        have := (pairs_tot (ps.take j) (fun p hp => HZ.out p (List.mem_of_mem_take hp))).2
        rw [List.length_take] at this; omega
      have q : ∀ W, Calls Tryd.prog 7 #[.string x] W fun e w' => e = .returned (.string t) ∧ Below W.heap.size W w' := fun W => by rw [← ht]; exact word_any x (by omega) W
      have q2 : ∀ W, Calls Tryd.prog 7 #[.string y] W fun e w' => e = .returned (.string u) ∧ Below W.heap.size W w' := fun W => by rw [← hu]; exact word_any y (by omega) W
      have HQ := Lib.hid q; have HQ2 := Lib.hid q2; have HN := Lib.hid hnx
      clear q q2 hnx ht hu hcc hne hp hzz
      have HX : Hid (Blk (wr.alloc (.cells #[.string x, .string y] 34)) wr.heap.size 34 [.string x, .string y]) := Lib.hid (Blk.new wr 34 [.string x, .string y])
      have HB0 : Below w.heap.size w (wr.alloc (.cells #[.string x, .string y] 34)) := hb.alloc hbs _
      have HO0 : Hid (OwnS (wr.alloc (.cells #[.string x, .string y] 34)) (w.heap.size + 1) u6 (okB :: (ps.take j).flatMap pairW)) := Lib.hid (HOj.out.alloc _)
      go_wp2_with fail
      go_region_held3 (fun W => W.cell? ⟨wr.heap.size, 0, none⟩ = some (.string x) ∧ W.cell? ⟨wr.heap.size, 1, none⟩ = some (.string y)) (go_keep) (first
        | (go_at_call 7; (with_reducible refine (HQ.out _).mono ?_); rintro e w1 ⟨rfl, hb1⟩; (try replace hb1 := below_undrew hb1); have HB1 : Below w.heap.size w w1 := (by first | exact HB2.trans (hb1.mono HB2.size) | exact HB0.trans (hb1.mono HB0.size)); have HO1 : Hid (OwnS w1 (w.heap.size + 1) u6 (okB :: (ps.take j).flatMap pairW)) := (by first | exact Lib.hid (HO2.out.below hb1) | exact Lib.hid (HO0.out.below hb1)); have HX1 : Hid (Blk w1 wr.heap.size 34 [.string x, .string y]) := (by first | exact Lib.hid (HX2.out.below hb1 HX2.out.lt) | exact Lib.hid (HX.out.below hb1 HX.out.lt)); have d1 : w1.cell? ⟨wr.heap.size, 0, none⟩ = some (.string x) := HX1.out.cell 0; have d4 : w1.cell? ⟨wr.heap.size, 1, none⟩ = some (.string y) := HX1.out.cell 1)
        | (go_at_call 7; (with_reducible refine (HQ2.out _).mono ?_); rintro e w2 ⟨rfl, hb2⟩; (try replace hb2 := below_undrew hb2); have HB2 : Below w.heap.size w w2 := (by first | exact HB1.trans (hb2.mono HB1.size) | exact HB0.trans (hb2.mono HB0.size)); have HO2 : Hid (OwnS w2 (w.heap.size + 1) u6 (okB :: (ps.take j).flatMap pairW)) := (by first | exact Lib.hid (HO1.out.below hb2) | exact Lib.hid (HO0.out.below hb2)); have HX2 : Hid (Blk w2 wr.heap.size 34 [.string x, .string y]) := (by first | exact Lib.hid (HX1.out.below hb2 HX1.out.lt) | exact Lib.hid (HX.out.below hb2 HX.out.lt)); have d1 : w2.cell? ⟨wr.heap.size, 0, none⟩ = some (.string x) := HX2.out.cell 0; have d4 : w2.cell? ⟨wr.heap.size, 1, none⟩ = some (.string y) := HX2.out.cell 1)
        | (refine step_append_s rfl (.tmp 61) (.tmp 68) rfl (w.heap.size + 1) u6 (okB :: (ps.take j).flatMap pairW) ⟨w2.heap.size, 0, none⟩ 2 2 [t, u] (by rfl) (by rfl) (HO2.out.alloc _) (by rw [List.length_cons]; omega) (by have := cell_lt d1; simp at this ⊢; omega) rfl (by omega) (news_s w2 [t, u]) ?_; intro v' w3 ho3 hg3; have HB3 : Below w.heap.size w w3 := (HB2.alloc HB2.size _).grown hg3 (by have := HB2.size; simp; omega) (fun i e => by have := own_size HO2.out i e; omega); have HX3 : Blk w3 wr.heap.size 34 [.string x, .string y] := (HX2.out.alloc _).grown hg3 (own_ne HO2.out HX2.out (by intro cur e; injection e with _ e; exact absurd e (by decide))); have d1 : w3.cell? ⟨wr.heap.size, 0, none⟩ = some (.string x) := HX3.cell 0; have d4 : w3.cell? ⟨wr.heap.size, 1, none⟩ = some (.string y) := HX3.cell 1)
        | (refine step_append_s rfl (.tmp 61) (.tmp 68) rfl (w.heap.size + 1) u6 (okB :: (ps.take j).flatMap pairW) ⟨w1.heap.size, 0, none⟩ 2 2 [t, u] (by rfl) (by rfl) (HO1.out.alloc _) (by rw [List.length_cons]; omega) (by have := cell_lt d1; simp at this ⊢; omega) rfl (by omega) (news_s w1 [t, u]) ?_; intro v' w3 ho3 hg3; have HB3 : Below w.heap.size w w3 := (HB1.alloc HB1.size _).grown hg3 (by have := HB1.size; simp; omega) (fun i e => by have := own_size HO1.out i e; omega); have HX3 : Blk w3 wr.heap.size 34 [.string x, .string y] := (HX1.out.alloc _).grown hg3 (own_ne HO1.out HX1.out (by intro cur e; injection e with _ e; exact absurd e (by decide))); have d1 : w3.cell? ⟨wr.heap.size, 0, none⟩ = some (.string x) := HX3.cell 0; have d4 : w3.cell? ⟨wr.heap.size, 1, none⟩ = some (.string y) := HX3.cell 1))
      all_goals
        have ho4 : Hid (OwnS w3 (w.heap.size + 1) v' (okB :: (ps.take (j + 1)).flatMap pairW)) := Lib.hid (by rw [HN.out]; exact ho3)
        clear ho3
        go_wp2_with fail
        go_roundw
        case rel => exact ⟨j + 1, by omega, by go_num, ho4, HB3⟩
        case measure => simp [intOf]; omega
    · obtain rfl : j = ps.length := by omega
      have HO5 := HOj.out
      rw [List.take_length] at HO5
      have hT3 : tot (okB :: ps.flatMap pairW) ≤ 1000000000 := by
        have := HT.out.1
        rw [tot_cons]
        have h2 : okB.size = 2 := rfl
        omega
      have hT4 : (okB :: ps.flatMap pairW).length ≤ 1000000 := by
        have := HT.out.2
        simp only [List.length_cons]; omega
      go_wp2_with (go_at_call 28; refine (join_own HO5 hT4 hT3).mono ?_; rintro e w4 ⟨rfl, hb4⟩)
      go_ret
      exact ⟨rfl, hb.trans (hb4.mono hbs)⟩
end Go.Proofs.YtgplaeopcejmoaaDoor
