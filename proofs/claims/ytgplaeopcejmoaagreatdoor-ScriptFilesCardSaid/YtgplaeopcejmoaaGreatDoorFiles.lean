/- The law ScriptFiles, walked. -/
import Derived.Test.YtgplaeopcejmoaaGreatDoorRefparse
import Derived.Test.YtgplaeopcejmoaaGreatDoorKnown
import Derived.Test.YtgplaeopcejmoaaGreatDoorOpenscr
namespace Go.Proofs.YtgplaeopcejmoaaGreatDoor
open Go.RowKit Go.Shelf

/-- a law's one script -/
structure FW (w W : World) (a : Scr) (pa : Option Addr) (ca : Nat) : Prop where
  below : Below w.heap.size w W
  x : Blk W w.heap.size 63 (scrCells a (.slice pa a.acts.length ca))
  aa : ActsAt W pa a.acts
  env : Env W
theorem FW.next {w W W' : World} {a : Scr} {pa : Option Addr} {ca : Nat} (h : FW w W a pa ca) (hb : Below W.heap.size W W') : FW w W' a pa ca :=
  ⟨h.below.trans (hb.mono h.below.size), h.x.below hb h.x.lt, h.aa.below hb, h.env.below hb⟩
theorem FW.cells {w W : World} {nodes capacity frames quorum delay : Int} {acts : List Ar} {pa : Option Addr} {ca : Nat} (h : FW w W ⟨⟨nodes, capacity, frames, quorum, delay⟩, acts⟩ pa ca) : W.cell? ⟨w.heap.size, 0, none⟩ = some (.int .i64 nodes) ∧ W.cell? ⟨w.heap.size, 1, none⟩ = some (.int .i64 capacity) ∧ W.cell? ⟨w.heap.size, 2, none⟩ = some (.int .i64 frames) ∧ W.cell? ⟨w.heap.size, 3, none⟩ = some (.int .i64 quorum) ∧ W.cell? ⟨w.heap.size, 4, none⟩ = some (.int .i64 delay) ∧ W.cell? ⟨w.heap.size, 5, none⟩ = some (.slice pa acts.length ca) :=
  ⟨h.x.cell 0, h.x.cell 1, h.x.cell 2, h.x.cell 3, h.x.cell 4, h.x.cell 5⟩

/-- what a text is read as, by both; what that is written as -/
structure FX (text : ByteArray) (r : Scr) (k ec : Int) (t2 : ByteArray) (e2 : Int) : Prop where
  p1 : ∀ W, Env W → Calls Tryz.prog 36 #[.string text] W fun e w' => (∃ p c, e = .returned (.tuple #[.agg (scrCells r (.slice p r.acts.length c)).toArray, .int .i64 k, .int .i64 ec]) ∧ ActsAt w' p r.acts) ∧ Below W.heap.size W w'
  p2 : ∀ W, Env W → Calls Tryz.prog 37 #[.string text] W fun e w' => (∃ p c, e = .returned (.tuple #[.agg (scrCells r (.slice p r.acts.length c)).toArray, .int .i64 k, .int .i64 ec]) ∧ ActsAt w' p r.acts) ∧ Below W.heap.size W w'
  sm : ∀ W p q c d, ActsAt W p r.acts → ActsAt W q r.acts → Calls Tryz.prog 34 #[.agg (scrCells r (.slice p r.acts.length c)).toArray, .agg (scrCells r (.slice q r.acts.length d)).toArray] W fun e w' => e = .returned (.bool true) ∧ Below W.heap.size W w'
  tx : ∀ W p c, ActsAt W p r.acts → Env W → Calls Tryz.prog 33 #[.agg (scrCells r (.slice p r.acts.length c)).toArray] W fun e w' => e = .returned (.tuple #[.string t2, .int .i64 e2]) ∧ Below W.heap.size W w'
  ok : ec = 0 ∧ t2 = text ∧ e2 = 0 ∨ ec = 4
theorem may_fewP {s : Scr} (h : mayScr s = true) : fewP s.acts := fun a ha => by
  obtain ⟨m, _, hw⟩ := mayAct_mask ((mayScr_parts h).2 a ha)
  have := (mayA_parts hw).2.2.2.2.2.1
  omega
theorem textR_may {s : Scr} (h : mayScr s = true) (hl : s.acts.length ≤ 65536) : textR s = .tuple #[.string (scrText s), .int .i64 0] := by
  unfold textR
  rw [h, if_pos rfl, if_neg (by omega)]
theorem fx_of (text : ByteArray) (hz : text.size ≤ 20000) : ∃ r k ec t2 e2, FX text r k ec t2 e2 := by
  have hsm : ∀ c ∈ cutsL 10 (bs text), c.length ≤ 1000000 := fun c hc => by
    have := cuts_le hc
    rw [bs_length] at this; omega
  have hp1 := fun W h => parse_any text (by omega) hsm W h
  have hp2 := fun W h => refparse_any text (by omega) W h
  cases hr : parseT text with
  | error n =>
    rw [hr] at hp1 hp2
    refine ⟨scrZ, n, 4, ⟨#[]⟩, 2, fun W h => (hp1 W h).mono fun e w' ⟨h1, h2⟩ => ⟨⟨none, 0, h1, ActsAt.nil _ _⟩, h2⟩, fun W h => (hp2 W h).mono fun e w' ⟨h1, h2⟩ => ⟨⟨none, 0, h1, ActsAt.nil _ _⟩, h2⟩, fun W p q c d _ _ => ?_, fun W p c _ hE => ?_, .inr rfl⟩
    · exact (refsames_any scrZ scrZ p q c d W (by simp [scrZ]) (fun a ha => by cases ha) (fun a ha => by cases ha) (ActsAt.nil _ _) (ActsAt.nil _ _)).mono fun e w' ⟨⟨b, he, hb⟩, h2⟩ => ⟨by rw [he, hb.2 rfl], h2⟩
    · exact (text_any scrZ ⟨fun i => by unfold setNs IntOk scrZ supZ; split <;> decide, fun a ha => by cases ha⟩ p c W (ActsAt.nil _ _) (by simp [scrZ]) (fun h => absurd h (by decide)) hE).mono fun e w' ⟨he, h2⟩ => ⟨by rw [he]; rfl, h2⟩
  | ok r =>
    rw [hr] at hp1 hp2
    obtain ⟨h1, h2, h3, h4⟩ := parse_back hr
    refine ⟨r, 0, 0, text, 0, fun W h => (hp1 W h).mono fun e w' ⟨h1, h2⟩ => ⟨h1, h2⟩, fun W h => (hp2 W h).mono fun e w' ⟨h1, h2⟩ => ⟨h1, h2⟩, fun W p q c d hA hB => ?_, fun W p c hA hE => ?_, .inl ⟨rfl, rfl, rfl⟩⟩
    · exact (refsames_any r r p q c d W (by omega) (may_fewP h2) (may_fewP h2) hA hB).mono fun e w' ⟨⟨b, he, hb⟩, h2⟩ => ⟨by rw [he, hb.2 rfl], h2⟩
    · have hlen : (lnB (scrLines r)).length ≤ 4194304 := by
        have : (scrText r).size = (lnB (scrLines r)).length := by unfold scrText; rw [txt_size]
        rw [h1] at this; omega
      exact (text_any r h3 p c W hA (by omega) (fun _ => .inr hlen) hE).mono fun e w' ⟨he, h2'⟩ => ⟨by rw [he, textR_may h2 h4, h1], h2'⟩
theorem all_next {l : List Ar} {k : Nat} {a : Ar} (b : Bool) (h : l[k]? = some a) : (b && (l.take (k + 1)).all mayAct) = ((b && (l.take k).all mayAct) && mayAct a) := by
  rw [List.take_add_one, h]
  simp [Bool.and_assoc]
/-- what the walk of the document's Text says -/
def RefTextOk : Prop := ∀ (s : Scr), mayScr s = true → ScrOk s → Few s → ∀ (pa : Option Addr) (pc : Nat) (w : World), ActsAt w pa s.acts → Env w →
    Calls Tryz.prog 39 #[.agg (scrCells s (.slice pa s.acts.length pc)).toArray] w fun e w' => e = .returned (.string (scrText s)) ∧ Below w.heap.size w w'
theorem fw_text {s : Scr} (ok : ScrOk s) (h : Few s) (pa : Option Addr) (pc : Nat) (w : World) (hA : ActsAt w pa s.acts) (henv : Env w) :
    Calls Tryz.prog 33 #[.agg (scrCells s (.slice pa s.acts.length pc)).toArray] w fun e w' => e = .returned (textR s) ∧ Below w.heap.size w w' :=
  text_any s ok pa pc w hA (by have := h.len; omega) (fun _ => .inr (by have := few_len ok h; omega)) henv
theorem fw_textR {s : Scr} (h : Few s) : (mayScr s = true ∧ textR s = .tuple #[.string (scrText s), .int .i64 0]) ∨ (mayScr s = false ∧ textR s = .tuple #[.string ⟨#[]⟩, .int .i64 2]) := by
  have := h.len
  cases hm : mayScr s with
  | true => left; refine ⟨rfl, ?_⟩; unfold textR; rw [hm, if_pos rfl, if_neg (by omega)]
  | false => right; refine ⟨rfl, ?_⟩; unfold textR; rw [hm]; rfl
theorem fw_parse {s : Scr} (hm : mayScr s = true) (ok : ScrOk s) (few : Few s) (W : World) (hE : Env W) :
    Calls Tryz.prog 36 #[.string (scrText s)] W fun e w' => (∃ p c, e = .returned (.tuple #[.agg (scrCells s (.slice p s.acts.length c)).toArray, .int .i64 0, .int .i64 0]) ∧ ActsAt w' p s.acts) ∧ Below W.heap.size W w' := by
  have h1 := few_len ok few
  have h2 := few.len
  refine (parse_any (scrText s) ?_ (cuts_small (scrLines_lack hm) (scrLine_small ok few)) W hE).mono fun e w' ⟨he, hbel⟩ => ⟨?_, hbel⟩
  · unfold scrText; rw [txt_size]; omega
  · rw [parse_text hm ok (by omega)] at he
    exact he

set_option maxRecDepth 100000 in
set_option maxHeartbeats 8000000 in
theorem lawFiles_any (hrt : RefTextOk) (a : Scr) (text : ByteArray) (oa : ScrOk a) (pa : Option Addr) (ca : Nat) (w : World) (hA : ActsAt w pa a.acts) (henv : Env w) :
    Calls Tryz.prog 8 #[.agg (scrCells a (.slice pa a.acts.length ca)).toArray, .string text] w fun e w' => e = .returned (.bool true) ∧ Below w.heap.size w w' := by
  have hX := Blk.new w 63 (scrCells a (.slice pa a.acts.length ca))
  have hbel : Below w.heap.size w (w.alloc (.cells (scrCells a (.slice pa a.acts.length ca)).toArray 63)) := (Below.refl _ w).alloc (Nat.le_refl _) _
  have HP : FW w _ a pa ca := ⟨hbel, hX, hA.below hbel, henv.below hbel⟩
  clear hX hbel hA henv
  obtain ⟨⟨nodes, capacity, frames, quorum, delay⟩, acts⟩ := a
  simp only [scrCells] at HP ⊢
  have hm1 : ∀ W, ActsAt W pa acts → Calls Tryz.prog 32 #[.agg #[.int .i64 nodes, .int .i64 capacity, .int .i64 frames, .int .i64 quorum, .int .i64 delay, .slice pa acts.length ca]] W fun e w' => muchR ⟨⟨nodes, capacity, frames, quorum, delay⟩, acts⟩ e ∧ Below W.heap.size W w' := fun W h => much_any ⟨⟨nodes, capacity, frames, quorum, delay⟩, acts⟩ pa ca W h
  have HM1 := Lib.hid hm1; have HOA := Lib.hid oa
  clear hm1 oa
  obtain ⟨x0, x1, x2, x3, x4, x5⟩ := HP.cells
  go_enter Tryz.func8, Tryz.ntmps8
  go_upto_region 3 with (go_at_call 11; refine (known_any _ HP.env).mono ?_; rintro e w1 ⟨rfl, hb1⟩)
  clear x0 x1 x2 x3 x4 x5
  replace HP := HP.next hb1
  obtain ⟨x0, x1, x2, x3, x4, x5⟩ := HP.cells
  clear hb1
  go_wp2_with fail
  refine (HM1.out _ HP.aa).mono ?_
  rintro e w2 ⟨⟨b2, rfl, hfa⟩, hb2⟩
  clear x0 x1 x2 x3 x4 x5
  replace HP := HP.next hb2
  obtain ⟨x0, x1, x2, x3, x4, x5⟩ := HP.cells
  clear hb2
  cases b2 with
  | true =>
    go_wp2_with fail
    go_ret
    exact ⟨rfl, HP.below⟩
  | false =>
    have HFA := Lib.hid (hfa rfl)
    clear hfa HM1
    by_cases hz : text.size ≤ 20000
    · have hz2 : ¬ (20000 : Int) < (text.size : Int) := by omega
      obtain ⟨r, k, ec, t2, e2, HXX⟩ := fx_of text hz
      obtain ⟨⟨rn, rc, rf, rq, rd⟩, ra⟩ := r
      obtain ⟨q1, q2, q3, q4, q5⟩ := HXX
      simp only [scrCells] at q1 q2 q3 q4
      have Q1 := Lib.hid q1; have Q2 := Lib.hid q2; have Q3 := Lib.hid q3; have Q4 := Lib.hid q4; have Q5 := Lib.hid q5
      have kk : (k == k) = true := by simp
      have kn : (k != k) = false := by simp
      have en : (ec != ec) = false := by simp
      clear q1 q2 q3 q4 q5
      go_upto_region 10 with (first
        | (go_at_call 36; refine (Q1.out _ HP.env).mono ?_; rintro e w3 ⟨⟨p3, c3, rfl, h3⟩, hb3⟩; have HP3 := (HP.next hb3).next ((Below.refl _ _).alloc (Nat.le_refl _) (.cells #[.int .i64 rn, .int .i64 rc, .int .i64 rf, .int .i64 rq, .int .i64 rd, .slice p3 ra.length c3] 63)); have k3 := h3.below ((Below.refl _ _).alloc (Nat.le_refl _) (.cells #[.int .i64 rn, .int .i64 rc, .int .i64 rf, .int .i64 rq, .int .i64 rd, .slice p3 ra.length c3] 63)); have hx3 := Blk.new w3 63 [.int .i64 rn, .int .i64 rc, .int .i64 rf, .int .i64 rq, .int .i64 rd, .slice p3 ra.length c3])
        | (go_at_call 37; refine (Q2.out _ HP3.env).mono ?_; rintro e w4 ⟨⟨p4, c4, rfl, h4⟩, hb4⟩; have HP4 := (HP3.next hb4).next ((Below.refl _ _).alloc (Nat.le_refl _) (.cells #[.int .i64 rn, .int .i64 rc, .int .i64 rf, .int .i64 rq, .int .i64 rd, .slice p4 ra.length c4] 63)); have k4 := h4.below ((Below.refl _ _).alloc (Nat.le_refl _) (.cells #[.int .i64 rn, .int .i64 rc, .int .i64 rf, .int .i64 rq, .int .i64 rd, .slice p4 ra.length c4] 63)); have kk4 := (k3.below hb4).below ((Below.refl _ _).alloc (Nat.le_refl _) (.cells #[.int .i64 rn, .int .i64 rc, .int .i64 rf, .int .i64 rq, .int .i64 rd, .slice p4 ra.length c4] 63)); have hx4 := (hx3.below hb4 hx3.lt).alloc (.cells #[.int .i64 rn, .int .i64 rc, .int .i64 rf, .int .i64 rq, .int .i64 rd, .slice p4 ra.length c4] 63); have y0 := hx4.cell 0; have y1 := hx4.cell 1; have y2 := hx4.cell 2; have y3 := hx4.cell 3; have y4 := hx4.cell 4; have y5 := hx4.cell 5)
        | (go_at_call 34; refine (Q3.out _ _ _ _ _ kk4 k4).mono ?_; rintro e w5 ⟨rfl, hb5⟩; have HP5 := HP4.next hb5; have k5 := kk4.below hb5; have hx5 := hx4.below hb5 hx4.lt; clear y0 y1 y2 y3 y4 y5; have z0 := hx5.cell 0; have z1 := hx5.cell 1; have z2 := hx5.cell 2; have z3 := hx5.cell 3; have z4 := hx5.cell 4; have z5 := hx5.cell 5)
        | (go_at_call 14; refine (num_any _ _).mono ?_; rintro e wq ⟨rfl, rfl⟩)
        | (go_at_call 33; refine (Q4.out _ _ _ k5 HP5.env).mono ?_; rintro e w6 ⟨rfl, hb6⟩))
      clear x0 x1 x2 x3 x4 x5
      replace HP := HP5.next hb6
      clear z0 z1 z2 z3 z4 z5 HP3 HP4 HP5 k3 k4 k5 kk4 h3 h4 hx3 hx4 hx5 hb3 hb4 hb5 hb6 Q1 Q2 Q3 Q4
      obtain ⟨x0, x1, x2, x3, x4, x5⟩ := HP.cells
      have hms : ∀ W, Calls Tryz.prog 38 #[.agg #[.int .i64 nodes, .int .i64 capacity, .int .i64 frames, .int .i64 quorum, .int .i64 delay]] W fun e w' => e = .returned (.bool (maySet ⟨nodes, capacity, frames, quorum, delay⟩)) ∧ Below W.heap.size W w' := fun W => refmayset_any ⟨nodes, capacity, frames, quorum, delay⟩ W
      have HMS := Lib.hid hms
      have htx : ∀ W, ActsAt W pa acts → Env W → Calls Tryz.prog 33 #[.agg #[.int .i64 nodes, .int .i64 capacity, .int .i64 frames, .int .i64 quorum, .int .i64 delay, .slice pa acts.length ca]] W fun e w' => e = .returned (textR ⟨⟨nodes, capacity, frames, quorum, delay⟩, acts⟩) ∧ Below W.heap.size W w' := fun W h he => fw_text HOA.out HFA.out pa ca W h he
      have HTX := Lib.hid htx
      have hla := HFA.out.len
      obtain ⟨B, hB⟩ : ∃ B : Nat → Bool, B = fun k => maySet ⟨nodes, capacity, frames, quorum, delay⟩ && (acts.take k).all mayAct := ⟨_, rfl⟩
      have hB0 : maySet ⟨nodes, capacity, frames, quorum, delay⟩ = B 0 := by rw [hB]; simp
      have hBn : ∀ k a, acts[k]? = some a → B (k + 1) = (B k && mayAct a) := fun k a h => by rw [hB]; exact all_next _ h
      have hBe : B acts.length = mayScr ⟨⟨nodes, capacity, frames, quorum, delay⟩, acts⟩ := by rw [hB]; unfold mayScr; simp
      have HB0 := Lib.hid hB0; have HBN := Lib.hid hBn; have HBE := Lib.hid hBe; have HRT := Lib.hid hrt
      have q5 := Q5.out
      clear hms htx hB hB0 hBn hBe Q5
      clear hrt
      rcases q5 with ⟨rfl, rfl, rfl⟩ | rfl
      all_goals
        go_wp2_with (first
          | (go_at_call 14; refine (num_any _ _).mono ?_; rintro e wq ⟨rfl, rfl⟩)
          | (go_at_call 38; refine (HMS.out _).mono ?_; rintro e w8 ⟨rfl, hb8⟩; rw [HB0.out]; have HP8 := Lib.hid (HP.next hb8)))
        clear x0 x1 x2 x3 x4 x5
        go_loopw [13, 14] (fun m i wr => ∃ k : Nat, k ≤ acts.length ∧ i = .int .i64 k ∧ m = .bool (B k) ∧ Hid (FW w wr ⟨⟨nodes, capacity, frames, quorum, delay⟩, acts⟩ pa ca)) (fun _ i _ => acts.length - (intOf i).toNat)
        case atStart => exact ⟨0, Nat.zero_le _, rfl, rfl, HP8⟩
        case round =>
          clear HP HP8 hb8
          obtain ⟨k, hk, rfl, rfl, HPr⟩ := hrel
          have HP := HPr.out
          clear HPr
          obtain ⟨x0, x1, x2, x3, x4, x5⟩ := HP.cells
          by_cases hlt : k < acts.length
          · have hlt2 : (k : Int) < (acts.length : Int) := by omega
            have hne : acts ≠ [] := fun e => by rw [e] at hlt; simp at hlt
            obtain ⟨a, ha⟩ : ∃ a, acts[k]? = some a := ⟨_, List.getElem?_eq_getElem hlt⟩
            have hbn := HBN.out k a ha
            obtain ⟨g, o, rfl, hg, hc⟩ := HP.aa hne
            obtain ⟨pa2, pc2, hr, hp⟩ := hc k a ha
            obtain ⟨kd, node, source, nn, ⟨ak, am, akey, atil, avalue, alevel, alsn⟩, picks⟩ := a
            have r0 : wr.cell? ⟨g, o + k * 12, none⟩ = some (.int .i64 kd) := hr 0 _ rfl; have r1 := hr 1 _ rfl; have r2 := hr 2 _ rfl; have r3 := hr 3 _ rfl; have r4 := hr 4 _ rfl; have r5 := hr 5 _ rfl; have r6 := hr 6 _ rfl; have r7 := hr 7 _ rfl; have r8 := hr 8 _ rfl; have r9 := hr 9 _ rfl; have r10 := hr 10 _ rfl; have r11 := hr 11 _ rfl
            have hma : ∀ W, Calls Tryz.prog 28 #[.agg #[.int .i64 kd, .int .i64 node, .int .i64 source, .int .i64 nn, .int .i64 ak, .int .u64 (am : Int), .string akey, .string atil, .string avalue, .int .i64 alevel, .int .u64 (alsn : Int), .slice pa2 picks.length pc2]] W fun e w' => e = .returned (.bool (mayAct ⟨kd, node, source, nn, ⟨ak, am, akey, atil, avalue, alevel, alsn⟩, picks⟩)) ∧ Below W.heap.size W w' := fun W => refmaya_any ⟨kd, node, source, nn, ⟨ak, am, akey, atil, avalue, alevel, alsn⟩, picks⟩ pa2 pc2 W
            generalize hmm : mayAct ⟨kd, node, source, nn, ⟨ak, am, akey, atil, avalue, alevel, alsn⟩, picks⟩ = ma at *
            have HMA := Lib.hid hma
            have HBK := Lib.hid hbn
            clear hc hr hp ha hne hma hbn hmm
            cases hb : B k with
            | false =>
              rw [hb] at HBK
              go_wp2_with fail
              go_roundw
              case rel => exact ⟨k + 1, by omega, by go_num, by rw [HBK.out]; rfl, Lib.hid HP⟩
              case measure => simp [intOf]; omega
            | true =>
              rw [hb] at HBK
              go_wp2_with (go_at_call 28; refine (HMA.out _).mono ?_; rintro e w10 ⟨rfl, hb10⟩)
              go_roundw
              case rel => exact ⟨k + 1, by omega, by go_num, by rw [HBK.out]; cases ma <;> rfl, Lib.hid (HP.next hb10)⟩
              case measure => simp [intOf]; omega
          · obtain rfl : k = acts.length := by omega
            have hlt2 : ¬ (acts.length : Int) < (acts.length : Int) := by omega
            rw [HBE.out]
            rcases fw_textR HFA.out with ⟨hm, htR⟩ | ⟨hm, htR⟩
            · rw [htR] at HTX
              rw [hm]
              have hpt := fun W h => fw_parse hm HOA.out HFA.out W h
              have hsm : ∀ W p c, ActsAt W p acts → ActsAt W pa acts → Calls Tryz.prog 34 #[.agg #[.int .i64 nodes, .int .i64 capacity, .int .i64 frames, .int .i64 quorum, .int .i64 delay, .slice p acts.length c], .agg #[.int .i64 nodes, .int .i64 capacity, .int .i64 frames, .int .i64 quorum, .int .i64 delay, .slice pa acts.length ca]] W fun e w' => e = .returned (.bool true) ∧ Below W.heap.size W w' := fun W p c h1 h2 =>
                (refsames_any ⟨⟨nodes, capacity, frames, quorum, delay⟩, acts⟩ ⟨⟨nodes, capacity, frames, quorum, delay⟩, acts⟩ p pa c ca W (by simp only; omega) (may_fewP hm) (may_fewP hm) h1 h2).mono fun e w' ⟨⟨b, he, hb⟩, h2⟩ => ⟨by rw [he, hb.2 rfl], h2⟩
              have hrx := fun W h1 h2 => HRT.out ⟨⟨nodes, capacity, frames, quorum, delay⟩, acts⟩ hm HOA.out HFA.out pa ca W h1 h2
              simp only [scrCells] at hpt hrx
              have HPT := Lib.hid hpt; have HSM := Lib.hid hsm; have HRX := Lib.hid hrx
              clear hpt hsm hrx hm htR HOA HFA HRT HBE HBN HB0 HMS
              generalize scrText ⟨⟨nodes, capacity, frames, quorum, delay⟩, acts⟩ = tx at *
              go_wp2_with (first
                | (go_at_call 14; refine (num_any _ _).mono ?_; rintro e wq ⟨rfl, rfl⟩)
                | (go_at_call 33; refine (HTX.out _ HP.aa HP.env).mono ?_; rintro e w11 ⟨rfl, hb11⟩; have HP11 := HP.next hb11; clear x0 x1 x2 x3 x4 x5; obtain ⟨x0, x1, x2, x3, x4, x5⟩ := HP11.cells)
                | (go_at_call 36; refine (HPT.out _ HP11.env).mono ?_; rintro e w12 ⟨⟨p12, c12, rfl, h12⟩, hb12⟩; have bA := (Below.refl w12.heap.size w12).alloc (Nat.le_refl _) (.cells #[.int .i64 nodes, .int .i64 capacity, .int .i64 frames, .int .i64 quorum, .int .i64 delay, .slice p12 acts.length c12] 63); have HP12 := (HP11.next hb12).next bA; have k12 := h12.below bA; have hx12 := Blk.new w12 63 [.int .i64 nodes, .int .i64 capacity, .int .i64 frames, .int .i64 quorum, .int .i64 delay, .slice p12 acts.length c12]; clear x0 x1 x2 x3 x4 x5; obtain ⟨x0, x1, x2, x3, x4, x5⟩ := HP12.cells)
                | (go_at_call 39; refine (HRX.out _ HP12.aa HP12.env).mono ?_; rintro e w13 ⟨rfl, hb13⟩; have HP13 := HP12.next hb13; have k13 := k12.below hb13; have hx13 := hx12.below hb13 hx12.lt; clear x0 x1 x2 x3 x4 x5; obtain ⟨x0, x1, x2, x3, x4, x5⟩ := HP13.cells; have y0 := hx13.cell 0; have y1 := hx13.cell 1; have y2 := hx13.cell 2; have y3 := hx13.cell 3; have y4 := hx13.cell 4; have y5 := hx13.cell 5)
                | (go_at_call 34; refine (HSM.out _ _ _ k13 HP13.aa).mono ?_; rintro e w14 ⟨rfl, hb14⟩))
              go_ret
              exact ⟨rfl, (HP13.next hb14).below⟩
            · rw [htR] at HTX
              rw [hm]
              clear hm htR HOA HFA HRT HBE HBN HB0 HMS
              go_wp2_with (first
                | (go_at_call 14; refine (num_any _ _).mono ?_; rintro e wq ⟨rfl, rfl⟩)
                | (go_at_call 33; refine (HTX.out _ HP.aa HP.env).mono ?_; rintro e w11 ⟨rfl, hb11⟩))
              go_ret
              exact ⟨rfl, (HP.next hb11).below⟩
    · have hz2 : (20000 : Int) < (text.size : Int) := by omega
      go_wp2_with fail
      go_ret
      exact ⟨rfl, HP.below⟩
theorem lawFilesC (hrt : RefTextOk) (w : World) (u : Value) (text : ByteArray) (z : ArgScr w u) (henv : Env w) : Calls Tryz.prog 8 #[u, .string text] w fun e w' => e = .returned (.bool true) ∧ Below w.heap.size w w' := by
  obtain ⟨a, pa, ca, rfl, oa, hA⟩ := z
  exact lawFiles_any hrt a text oa pa ca w hA henv
end Go.Proofs.YtgplaeopcejmoaaGreatDoor
