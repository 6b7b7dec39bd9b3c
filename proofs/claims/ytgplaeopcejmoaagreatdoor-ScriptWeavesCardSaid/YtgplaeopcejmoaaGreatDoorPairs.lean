/- The law ScriptPairs, walked. -/
import Derived.Test.YtgplaeopcejmoaaGreatDoorSamec
import Derived.Test.YtgplaeopcejmoaaGreatDoorBound
import Derived.Test.YtgplaeopcejmoaaGreatDoorParse
import Derived.Test.YtgplaeopcejmoaaGreatDoorKnown
import Derived.Test.YtgplaeopcejmoaaGreatDoorOpenscr
namespace Go.Proofs.YtgplaeopcejmoaaGreatDoor
open Go.RowKit Go.Shelf

/-- a law's two scripts -/
structure PW (w W : World) (a b : Scr) (pa pb : Option Addr) (ca cb : Nat) : Prop where
  below : Below w.heap.size w W
  x : Blk W w.heap.size 63 (scrCells a (.slice pa a.acts.length ca))
  y : Blk W (w.heap.size + 1) 63 (scrCells b (.slice pb b.acts.length cb))
  aa : ActsAt W pa a.acts
  bb : ActsAt W pb b.acts
  env : Env W
theorem PW.next {w W W' : World} {a b : Scr} {pa pb : Option Addr} {ca cb : Nat} (h : PW w W a b pa pb ca cb) (hb : Below W.heap.size W W') : PW w W' a b pa pb ca cb :=
  ⟨h.below.trans (hb.mono h.below.size), h.x.below hb h.x.lt, h.y.below hb h.y.lt, h.aa.below hb, h.bb.below hb, h.env.below hb⟩
theorem PW.cells {w W : World} {nodes capacity frames quorum delay nodes2 capacity2 frames2 quorum2 delay2 : Int} {acts acts2 : List Ar} {pa pb : Option Addr} {ca cb : Nat} (h : PW w W ⟨⟨nodes, capacity, frames, quorum, delay⟩, acts⟩ ⟨⟨nodes2, capacity2, frames2, quorum2, delay2⟩, acts2⟩ pa pb ca cb) : W.cell? ⟨w.heap.size, 0, none⟩ = some (.int .i64 nodes) ∧ W.cell? ⟨w.heap.size, 1, none⟩ = some (.int .i64 capacity) ∧ W.cell? ⟨w.heap.size, 2, none⟩ = some (.int .i64 frames) ∧ W.cell? ⟨w.heap.size, 3, none⟩ = some (.int .i64 quorum) ∧ W.cell? ⟨w.heap.size, 4, none⟩ = some (.int .i64 delay) ∧ W.cell? ⟨w.heap.size, 5, none⟩ = some (.slice pa acts.length ca) ∧ W.cell? ⟨w.heap.size + 1, 0, none⟩ = some (.int .i64 nodes2) ∧ W.cell? ⟨w.heap.size + 1, 1, none⟩ = some (.int .i64 capacity2) ∧ W.cell? ⟨w.heap.size + 1, 2, none⟩ = some (.int .i64 frames2) ∧ W.cell? ⟨w.heap.size + 1, 3, none⟩ = some (.int .i64 quorum2) ∧ W.cell? ⟨w.heap.size + 1, 4, none⟩ = some (.int .i64 delay2) ∧ W.cell? ⟨w.heap.size + 1, 5, none⟩ = some (.slice pb acts2.length cb) :=
  ⟨h.x.cell 0, h.x.cell 1, h.x.cell 2, h.x.cell 3, h.x.cell 4, h.x.cell 5, h.y.cell 0, h.y.cell 1, h.y.cell 2, h.y.cell 3, h.y.cell 4, h.y.cell 5⟩
theorem few_picks {s : Scr} (h : Few s) : fewP s.acts := fun a ha => by have := (h.small a ha).2.2.2; omega
theorem text_few {s : Scr} (ok : ScrOk s) (h : Few s) (pa : Option Addr) (pc : Nat) (w : World) (hA : ActsAt w pa s.acts) (henv : Env w) :
    Calls Tryz.prog 33 #[.agg (scrCells s (.slice pa s.acts.length pc)).toArray] w fun e w' => e = .returned (textR s) ∧ Below w.heap.size w w' :=
  text_any s ok pa pc w hA (by have := h.len; omega) (fun _ => .inr (by have := few_len ok h; omega)) henv
/-- the two texts, and what the law says of them -/
structure PairsV (a b : Scr) (r : Bool) (t u : ByteArray) (ea eb : Int) : Prop where
  ta : textR a = .tuple #[.string t, .int .i64 ea]
  tb : textR b = .tuple #[.string u, .int .i64 eb]
  code : (ea = 0 ∧ eb = 0 ∧ (t.toList == u.toList) = r) ∨ (ea = 0 ∧ eb = 2) ∨ (ea = 2 ∧ eb = 0) ∨ (ea = 2 ∧ eb = 2)
theorem textR_few {s : Scr} (h : Few s) : (mayScr s = true ∧ textR s = .tuple #[.string (scrText s), .int .i64 0]) ∨ (mayScr s = false ∧ textR s = .tuple #[.string ⟨#[]⟩, .int .i64 2]) := by
  have := h.len
  cases hm : mayScr s with
  | true => left; refine ⟨rfl, ?_⟩; unfold textR; rw [hm, if_pos rfl, if_neg (by omega)]
  | false => right; refine ⟨rfl, ?_⟩; unfold textR; rw [hm]; rfl
theorem pairsV {a b : Scr} (oa : ScrOk a) (ob : ScrOk b) (fa : Few a) (fb : Few b) (r : Bool) (hr : r = true ↔ a = b) : ∃ t u ea eb, PairsV a b r t u ea eb := by
  have la := fa.len
  have lb := fb.len
  rcases textR_few fa with ⟨ma, ha⟩ | ⟨ma, ha⟩ <;> rcases textR_few fb with ⟨mb, hb⟩ | ⟨mb, hb⟩
  · refine ⟨_, _, _, _, ha, hb, .inl ⟨rfl, rfl, ?_⟩⟩
    have hi : (scrText a).toList = (scrText b).toList ↔ a = b := ⟨fun h => scrText_inj ma mb oa ob (by omega) (by omega) (toList_inj h), fun h => by rw [h]⟩
    cases r with
    | true => rw [hr.1 rfl]; simp
    | false => simpa using fun h => by have := hr.2 (hi.1 h); cases this
  · exact ⟨_, _, _, _, ha, hb, .inr (.inl ⟨rfl, rfl⟩)⟩
  · exact ⟨_, _, _, _, ha, hb, .inr (.inr (.inl ⟨rfl, rfl⟩))⟩
  · exact ⟨_, _, _, _, ha, hb, .inr (.inr (.inr ⟨rfl, rfl⟩))⟩

set_option maxRecDepth 100000 in
set_option maxHeartbeats 8000000 in
theorem lawPairs_any (a b : Scr) (oa : ScrOk a) (ob : ScrOk b) (pa pb : Option Addr) (ca cb : Nat) (w : World) (hA : ActsAt w pa a.acts) (hB : ActsAt w pb b.acts) (henv : Env w) :
    Calls Tryz.prog 7 #[.agg (scrCells a (.slice pa a.acts.length ca)).toArray, .agg (scrCells b (.slice pb b.acts.length cb)).toArray] w fun e w' => e = .returned (.bool true) ∧ Below w.heap.size w w' := by
  have hX := (Blk.new w 63 (scrCells a (.slice pa a.acts.length ca))).alloc (.cells (scrCells b (.slice pb b.acts.length cb)).toArray 63)
  have hY := Blk.new (w.alloc (.cells (scrCells a (.slice pa a.acts.length ca)).toArray 63)) 63 (scrCells b (.slice pb b.acts.length cb))
  rw [World.size_alloc] at hY
  have hbel : Below w.heap.size w ((w.alloc (.cells (scrCells a (.slice pa a.acts.length ca)).toArray 63)).alloc (.cells (scrCells b (.slice pb b.acts.length cb)).toArray 63)) := ((Below.refl _ w).alloc (Nat.le_refl _) _).alloc (by simp) _
  have HP : PW w _ a b pa pb ca cb := ⟨hbel, hX, hY, hA.below hbel, hB.below hbel, henv.below hbel⟩
  clear hX hY hbel hA hB henv
  obtain ⟨⟨nodes, capacity, frames, quorum, delay⟩, acts⟩ := a
  obtain ⟨⟨nodes2, capacity2, frames2, quorum2, delay2⟩, acts2⟩ := b
  simp only [scrCells] at HP ⊢
  have hm1 : ∀ W, ActsAt W pa acts → Calls Tryz.prog 32 #[.agg #[.int .i64 nodes, .int .i64 capacity, .int .i64 frames, .int .i64 quorum, .int .i64 delay, .slice pa acts.length ca]] W fun e w' => muchR ⟨⟨nodes, capacity, frames, quorum, delay⟩, acts⟩ e ∧ Below W.heap.size W w' := fun W h => much_any ⟨⟨nodes, capacity, frames, quorum, delay⟩, acts⟩ pa ca W h
  have hm2 : ∀ W, ActsAt W pb acts2 → Calls Tryz.prog 32 #[.agg #[.int .i64 nodes2, .int .i64 capacity2, .int .i64 frames2, .int .i64 quorum2, .int .i64 delay2, .slice pb acts2.length cb]] W fun e w' => muchR ⟨⟨nodes2, capacity2, frames2, quorum2, delay2⟩, acts2⟩ e ∧ Below W.heap.size W w' := fun W h => much_any ⟨⟨nodes2, capacity2, frames2, quorum2, delay2⟩, acts2⟩ pb cb W h
  have ht1 : Few ⟨⟨nodes, capacity, frames, quorum, delay⟩, acts⟩ → ∀ W, ActsAt W pa acts → Env W → Calls Tryz.prog 33 #[.agg #[.int .i64 nodes, .int .i64 capacity, .int .i64 frames, .int .i64 quorum, .int .i64 delay, .slice pa acts.length ca]] W fun e w' => e = .returned (textR ⟨⟨nodes, capacity, frames, quorum, delay⟩, acts⟩) ∧ Below W.heap.size W w' := fun hf W h he => text_few oa hf pa ca W h he
  have ht2 : Few ⟨⟨nodes2, capacity2, frames2, quorum2, delay2⟩, acts2⟩ → ∀ W, ActsAt W pb acts2 → Env W → Calls Tryz.prog 33 #[.agg #[.int .i64 nodes2, .int .i64 capacity2, .int .i64 frames2, .int .i64 quorum2, .int .i64 delay2, .slice pb acts2.length cb]] W fun e w' => e = .returned (textR ⟨⟨nodes2, capacity2, frames2, quorum2, delay2⟩, acts2⟩) ∧ Below W.heap.size W w' := fun hf W h he => text_few ob hf pb cb W h he
  have hrs : Few ⟨⟨nodes, capacity, frames, quorum, delay⟩, acts⟩ → Few ⟨⟨nodes2, capacity2, frames2, quorum2, delay2⟩, acts2⟩ → ∀ W, ActsAt W pa acts → ActsAt W pb acts2 → Calls Tryz.prog 34 #[.agg #[.int .i64 nodes, .int .i64 capacity, .int .i64 frames, .int .i64 quorum, .int .i64 delay, .slice pa acts.length ca], .agg #[.int .i64 nodes2, .int .i64 capacity2, .int .i64 frames2, .int .i64 quorum2, .int .i64 delay2, .slice pb acts2.length cb]] W fun e w' => sameR (⟨⟨nodes, capacity, frames, quorum, delay⟩, acts⟩ : Scr) ⟨⟨nodes2, capacity2, frames2, quorum2, delay2⟩, acts2⟩ e ∧ Below W.heap.size W w' := fun hf hg W h k => refsames_any ⟨⟨nodes, capacity, frames, quorum, delay⟩, acts⟩ ⟨⟨nodes2, capacity2, frames2, quorum2, delay2⟩, acts2⟩ pa pb ca cb W (by have := hf.len; simp only at this ⊢; omega) (few_picks hf) (few_picks hg) h k
  have hs1 : Few ⟨⟨nodes, capacity, frames, quorum, delay⟩, acts⟩ → Few ⟨⟨nodes2, capacity2, frames2, quorum2, delay2⟩, acts2⟩ → ∀ W, ActsAt W pa acts → ActsAt W pb acts2 → Calls Tryz.prog 35 #[.agg #[.int .i64 nodes, .int .i64 capacity, .int .i64 frames, .int .i64 quorum, .int .i64 delay, .slice pa acts.length ca], .agg #[.int .i64 nodes2, .int .i64 capacity2, .int .i64 frames2, .int .i64 quorum2, .int .i64 delay2, .slice pb acts2.length cb]] W fun e w' => sameR (⟨⟨nodes, capacity, frames, quorum, delay⟩, acts⟩ : Scr) ⟨⟨nodes2, capacity2, frames2, quorum2, delay2⟩, acts2⟩ e ∧ Below W.heap.size W w' := fun hf hg W h k => same_any ⟨⟨nodes, capacity, frames, quorum, delay⟩, acts⟩ ⟨⟨nodes2, capacity2, frames2, quorum2, delay2⟩, acts2⟩ pa pb ca cb W (by have := hf.len; simp only at this ⊢; omega) (few_picks hf) (few_picks hg) h k
  have hs2 : Few ⟨⟨nodes, capacity, frames, quorum, delay⟩, acts⟩ → Few ⟨⟨nodes2, capacity2, frames2, quorum2, delay2⟩, acts2⟩ → ∀ W, ActsAt W pa acts → ActsAt W pb acts2 → Calls Tryz.prog 35 #[.agg #[.int .i64 nodes2, .int .i64 capacity2, .int .i64 frames2, .int .i64 quorum2, .int .i64 delay2, .slice pb acts2.length cb], .agg #[.int .i64 nodes, .int .i64 capacity, .int .i64 frames, .int .i64 quorum, .int .i64 delay, .slice pa acts.length ca]] W fun e w' => sameR (⟨⟨nodes2, capacity2, frames2, quorum2, delay2⟩, acts2⟩ : Scr) ⟨⟨nodes, capacity, frames, quorum, delay⟩, acts⟩ e ∧ Below W.heap.size W w' := fun hf hg W h k => same_any ⟨⟨nodes2, capacity2, frames2, quorum2, delay2⟩, acts2⟩ ⟨⟨nodes, capacity, frames, quorum, delay⟩, acts⟩ pb pa cb ca W (by have := hg.len; simp only at this ⊢; omega) (few_picks hg) (few_picks hf) k h
  have hs3 : Few ⟨⟨nodes, capacity, frames, quorum, delay⟩, acts⟩ → ∀ W, ActsAt W pa acts → Calls Tryz.prog 35 #[.agg #[.int .i64 nodes, .int .i64 capacity, .int .i64 frames, .int .i64 quorum, .int .i64 delay, .slice pa acts.length ca], .agg #[.int .i64 nodes, .int .i64 capacity, .int .i64 frames, .int .i64 quorum, .int .i64 delay, .slice pa acts.length ca]] W fun e w' => sameR (⟨⟨nodes, capacity, frames, quorum, delay⟩, acts⟩ : Scr) ⟨⟨nodes, capacity, frames, quorum, delay⟩, acts⟩ e ∧ Below W.heap.size W w' := fun hf W h => same_any ⟨⟨nodes, capacity, frames, quorum, delay⟩, acts⟩ ⟨⟨nodes, capacity, frames, quorum, delay⟩, acts⟩ pa pa ca ca W (by have := hf.len; simp only at this ⊢; omega) (few_picks hf) (few_picks hf) h h
  have HM1 := Lib.hid hm1; have HM2 := Lib.hid hm2; have HT1 := Lib.hid ht1; have HT2 := Lib.hid ht2; have HRS := Lib.hid hrs; have HS1 := Lib.hid hs1; have HS2 := Lib.hid hs2; have HS3 := Lib.hid hs3
  have HPV := Lib.hid (fun f1 f2 r hr => pairsV (a := ⟨⟨nodes, capacity, frames, quorum, delay⟩, acts⟩) (b := ⟨⟨nodes2, capacity2, frames2, quorum2, delay2⟩, acts2⟩) oa ob f1 f2 r hr)
  clear hm1 hm2 ht1 ht2 hrs hs1 hs2 hs3 oa ob
  obtain ⟨x0, x1, x2, x3, x4, x5, y0, y1, y2, y3, y4, y5⟩ := HP.cells
  go_enter Tryz.func7, Tryz.ntmps7
  go_wp2_with fail
  refine (HM1.out _ HP.aa).mono ?_
  rintro e w1 ⟨⟨b1, rfl, hfa⟩, hb1⟩
  clear x0 x1 x2 x3 x4 x5 y0 y1 y2 y3 y4 y5
  replace HP := HP.next hb1
  obtain ⟨x0, x1, x2, x3, x4, x5, y0, y1, y2, y3, y4, y5⟩ := HP.cells
  cases b1 with
  | true =>
    clear hfa
    go_wp2_with (first
      | (go_at_call 11; refine (known_any _ HP.env).mono ?_; rintro e wk ⟨rfl, hbk⟩; clear x0 x1 x2 x3 x4 x5 y0 y1 y2 y3 y4 y5; replace HP := HP.next hbk))
    go_ret
    exact ⟨rfl, HP.below⟩
  | false =>
    have HFA := Lib.hid (hfa rfl)
    clear hfa hb1
    go_wp2_with fail
    refine (HM2.out _ HP.bb).mono ?_
    rintro e w2 ⟨⟨b2, rfl, hfb⟩, hb2⟩
    clear x0 x1 x2 x3 x4 x5 y0 y1 y2 y3 y4 y5
    replace HP := HP.next hb2
    obtain ⟨x0, x1, x2, x3, x4, x5, y0, y1, y2, y3, y4, y5⟩ := HP.cells
    cases b2 with
    | true =>
      clear hfb
      go_wp2_with (first
        | (go_at_call 11; refine (known_any _ HP.env).mono ?_; rintro e wk ⟨rfl, hbk⟩; clear x0 x1 x2 x3 x4 x5 y0 y1 y2 y3 y4 y5; replace HP := HP.next hbk))
      go_ret
      exact ⟨rfl, HP.below⟩
    | false =>
      have HFB := Lib.hid (hfb rfl)
      clear hfb hb2
      go_wp2_with fail
      refine (HT1.out HFA.out _ HP.aa HP.env).mono ?_
      rintro e w3 ⟨rfl, hb3⟩
      clear x0 x1 x2 x3 x4 x5 y0 y1 y2 y3 y4 y5
      replace HP := HP.next hb3
      obtain ⟨x0, x1, x2, x3, x4, x5, y0, y1, y2, y3, y4, y5⟩ := HP.cells
      clear hb3
      obtain ⟨r, hr⟩ : ∃ r : Bool, (r = true ↔ (⟨⟨nodes, capacity, frames, quorum, delay⟩, acts⟩ : Scr) = ⟨⟨nodes2, capacity2, frames2, quorum2, delay2⟩, acts2⟩) := by
        by_cases h : (⟨⟨nodes, capacity, frames, quorum, delay⟩, acts⟩ : Scr) = ⟨⟨nodes2, capacity2, frames2, quorum2, delay2⟩, acts2⟩
        · exact ⟨true, (fun _ => h), (fun _ => rfl)⟩
        · exact ⟨false, no_iff h⟩
      obtain ⟨t, u, ea, eb, HV0⟩ := HPV.out HFA.out HFB.out r hr
      have HR := Lib.hid hr
      have HV := Lib.hid HV0
      have hcode := HV0.code
      rw [HV0.ta]
      clear HV0 hr
      have la := HFA.out.len
      have lb := HFB.out.len
      go_wp2_with fail
      refine (HT2.out HFB.out _ HP.bb HP.env).mono ?_
      rintro e w4 ⟨rfl, hb4⟩
      rw [HV.out.tb]
      clear x0 x1 x2 x3 x4 x5 y0 y1 y2 y3 y4 y5
      replace HP := HP.next hb4
      obtain ⟨x0, x1, x2, x3, x4, x5, y0, y1, y2, y3, y4, y5⟩ := HP.cells
      clear hb4
      go_wp2_with fail
      refine (HRS.out HFA.out HFB.out _ HP.aa HP.bb).mono ?_
      rintro e w5 ⟨⟨q, rfl, hq⟩, hb5⟩
      have hqr : q = r := by rw [Bool.eq_iff_iff, hq, HR.out]
      subst hqr
      clear x0 x1 x2 x3 x4 x5 y0 y1 y2 y3 y4 y5
      replace HP := HP.next hb5
      obtain ⟨x0, x1, x2, x3, x4, x5, y0, y1, y2, y3, y4, y5⟩ := HP.cells
      clear hb5 hq
      go_wp2_with fail
      refine (HS1.out HFA.out HFB.out _ HP.aa HP.bb).mono ?_
      rintro e w6 ⟨⟨q6, rfl, hq⟩, hb6⟩
      have hqr : q6 = q := by rw [Bool.eq_iff_iff, hq, HR.out]
      subst hqr
      clear x0 x1 x2 x3 x4 x5 y0 y1 y2 y3 y4 y5
      replace HP := HP.next hb6
      obtain ⟨x0, x1, x2, x3, x4, x5, y0, y1, y2, y3, y4, y5⟩ := HP.cells
      clear hb6 hq
      have hqq : (q6 == q6) = true := by cases q6 <;> rfl
      go_wp2_with fail
      refine (HS2.out HFA.out HFB.out _ HP.aa HP.bb).mono ?_
      rintro e w7 ⟨⟨q7, rfl, hq⟩, hb7⟩
      have hqr : q7 = q6 := by rw [Bool.eq_iff_iff, hq, HR.out]; exact eq_comm
      subst hqr
      clear x0 x1 x2 x3 x4 x5 y0 y1 y2 y3 y4 y5
      replace HP := HP.next hb7
      obtain ⟨x0, x1, x2, x3, x4, x5, y0, y1, y2, y3, y4, y5⟩ := HP.cells
      clear hb7 hq
      go_wp2_with fail
      refine (HS3.out HFA.out _ HP.aa).mono ?_
      rintro e w8 ⟨⟨q8, rfl, hq⟩, hb8⟩
      obtain rfl : q8 = true := hq.2 rfl
      clear x0 x1 x2 x3 x4 x5 y0 y1 y2 y3 y4 y5
      replace HP := HP.next hb8
      obtain ⟨x0, x1, x2, x3, x4, x5, y0, y1, y2, y3, y4, y5⟩ := HP.cells
      clear hb8 hq
      rcases hcode with ⟨rfl, rfl, hc⟩ | ⟨rfl, rfl⟩ | ⟨rfl, rfl⟩ | ⟨rfl, rfl⟩
      all_goals
        go_wp2_with (first
          | (go_at_call 14; refine (num_any _ _).mono ?_; rintro e wq ⟨rfl, rfl⟩)
          | (go_at_call 11; refine (known_any _ HP.env).mono ?_; rintro e wk ⟨rfl, hbk⟩; clear x0 x1 x2 x3 x4 x5 y0 y1 y2 y3 y4 y5; replace HP := HP.next hbk))
        go_ret
        exact ⟨rfl, HP.below⟩
theorem lawPairsC (w : World) (u v : Value) (z : ArgScr w u) (y : ArgScr w v) (henv : Env w) : Calls Tryz.prog 7 #[u, v] w fun e w' => e = .returned (.bool true) ∧ Below w.heap.size w w' := by
  obtain ⟨a, pa, ca, rfl, oa, hA⟩ := z
  obtain ⟨b, pb, cb, rfl, ob, hB⟩ := y
  exact lawPairs_any a b oa ob pa pb ca cb w hA hB henv
end Go.Proofs.YtgplaeopcejmoaaGreatDoor
