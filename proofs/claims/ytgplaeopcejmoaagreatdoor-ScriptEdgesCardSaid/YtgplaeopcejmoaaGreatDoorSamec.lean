/- Two scripts: the same, or not? slices.EqualFunc at acts, script.Same, the document's Same. -/
import Derived.Test.YtgplaeopcejmoaaGreatDoorSameb
import Derived.Test.YtgplaeopcejmoaaGreatDoorTexta
import Derived.Deep.RegionHeld3
namespace Go.Proofs.YtgplaeopcejmoaaGreatDoor
open Go.RowKit Go.Shelf

theorem wpList_store_blk {P : Program} {ops : Array Oper} {rest : List Oper} {o : Oper} {a : Act} {w : World} {Q : Exit → Act → World → Prop} (hgd : o.guard = none) (ty : TypeId) (x y : Operand) (ho : o.op = .store ty x y)
    (g : Nat) (L : List Value) (hx : a.eval x = .pointer (some ⟨g, 0, none⟩)) (hy : a.eval y = .agg L.toArray)
    (t : TypeId) (old : List Value) (hg : Blk w g t old) (hi : (P.info? ty).map (·.size) = some L.toArray.size)
    (hold : old.toArray.size = L.toArray.size) (h1 : L.toArray.all (·.oneCell') = true)
    (h : ∀ w', Blk w' g t L → w.grownBy w' (some g) → wpList P ops Q rest (a.put o.dst undef) w') : wpList P ops Q (o :: rest) a w :=
  wpList_store_row hgd ty x y ho g L.toArray hx hy t old.toArray hg hi hold h1 (h _ (hg.set L) (grownBy_setRow w g L.toArray))
theorem blk_range {w : World} {g : Nat} {t : TypeId} {L : List Value} (h : Blk w g t L) : w.rangeAt g 0 L := fun j v hv => by
  rw [Nat.zero_add]; exact (h.cell j).trans hv
theorem run_lcf (P : Program) (W : World) (a : Addr) (cs : List Value) (k : Nat) (hk : cs.length = k) (h : ∀ j v, cs[j]? = some v → W.cell? (a.add j) = some v) :
    Sem.run P (loadCellsFrom a 0 k #[]) W = .ok cs.toArray W := by
  have := run_loadCells_list (P := P) (w := W) a cs h
  rw [hk] at this
  simpa [loadCells] using this
theorem no_of {p : Prop} (h : false = true ↔ p) : ¬ p := fun x => by cases h.2 x
theorem enters79 : ∀ args w, (callFunc 79 args).run Tryz.prog w = .ok (.enter 79 args) w := enters_of Tryz.func79 (by kernel_rfl) rfl
def sameR {α : Type} (a b : α) (e : Ending) : Prop := ∃ r : Bool, e = .returned (.bool r) ∧ (r = true ↔ a = b)
theorem sameR_f {α : Type} {a b : α} (h : a ≠ b) : sameR a b (.returned (.bool false)) := ⟨false, rfl, no_iff h⟩
theorem sameR_t {α : Type} {a b : α} (h : a = b) : sameR a b (.returned (.bool true)) := ⟨true, rfl, (fun _ => h), (fun _ => rfl)⟩
theorem rowZ : (actCells arZero (.slice none 0 0)).toArray.size = 12 := rfl
/-- acts' picks are few -/
def fewP (l : List Ar) : Prop := ∀ a ∈ l, a.picks.length ≤ 1000000

set_option maxRecDepth 100000 in
set_option maxHeartbeats 8000000 in
theorem equalf_any (l r : List Ar) (pa pb : Option Addr) (ca cb : Nat) (w : World) (hl : l.length ≤ 1000000000) (hfl : fewP l) (hfr : fewP r) (hA : ActsAt w pa l) (hB : ActsAt w pb r) :
    Calls Tryz.prog 78 #[.slice pa l.length ca, .slice pb r.length cb, .func (.func 79) #[] #[]] w fun e w' => sameR l r e ∧ Below w.heap.size w w' := by
  have HA := Lib.hid hA
  have HB := Lib.hid hB
  have HFL := Lib.hid hfl
  have HFR := Lib.hid hfr
  clear hA hB hfl hfr
  have eg := enters79
  have hb := Below.refl w.heap.size w
  by_cases hlen : ¬ l.length = r.length
  · have g : ((l.length : Int) != (r.length : Int)) = true := by rw [bne_iff_ne]; omega
    have HE := Lib.hid hlen
    clear hlen
    go_enter Tryz.func78, Tryz.ntmps78
    go_wp2
    go_ret
    exact ⟨sameR_f fun h => HE.out (congrArg List.length h), hb⟩
  replace hlen := Classical.not_not.1 hlen
  have g : ((l.length : Int) != (r.length : Int)) = false := by rw [hlen]; simp
  have HL := Lib.hid hlen
  clear hlen
  go_enter Tryz.func78, Tryz.ntmps78
  go_wp2
  go_loopw [17] (fun i wr => ∃ k : Nat, k ≤ l.length ∧ i = .int .i64 k ∧ Below w.heap.size w wr ∧ Hid (ActsAt wr pa l) ∧ Hid (ActsAt wr pb r) ∧ Hid (∀ j, j < k → l[j]? = r[j]?)) (fun i _ => l.length - (intOf i).toNat)
  case atStart => exact ⟨0, Nat.zero_le _, rfl, hb, HA, HB, Lib.hid (fun j hj => by omega)⟩
  case round =>
    clear g hb HA HB
    obtain ⟨k, hk, rfl, hb, HA, HB, HJ⟩ := hrel
    have hL := HL.out
    by_cases hlt : k < l.length
    · have hne : l ≠ [] := fun e => by rw [e] at hlt; simp at hlt
      have hne2 : r ≠ [] := fun e => by rw [e] at hL; simp at hL; rw [hL] at hlt; simp at hlt
      obtain ⟨a, ha⟩ : ∃ a, l[k]? = some a := ⟨_, List.getElem?_eq_getElem hlt⟩
      obtain ⟨b, hb'⟩ : ∃ b, r[k]? = some b := ⟨_, List.getElem?_eq_getElem (by omega)⟩
      obtain ⟨g1, o1, rfl, hg1, hc1⟩ := HA.out hne
      obtain ⟨g2, o2, rfl, hg2, hc2⟩ := HB.out hne2
      obtain ⟨pa2, pc2, hr1, hp1⟩ := hc1 k a ha
      obtain ⟨pb2, pd2, hr2, hp2⟩ := hc2 k b hb'
      have HX := Lib.hid ha
      have HY := Lib.hid hb'
      have hcall := fun W h1 h2 => same1_any a b pa2 pb2 pc2 pd2 W (HFL.out a (List.mem_of_getElem? ha)) (HFR.out b (List.mem_of_getElem? hb')) h1 h2
      have HC := Lib.hid hcall
      have HR1 := Lib.hid hr1
      have HR2 := Lib.hid hr2
      have HP1 := Lib.hid hp1
      have HP2 := Lib.hid hp2
      have hlt2 : (k : Int) < (l.length : Int) := by omega
      have hlt3 : (k : Int) < (r.length : Int) := by omega
      clear hc1 hc2 ha hb' hr1 hr2 hp1 hp2 hne hne2 hL hcall
      go_wp2_with (first
        | (refine wpList_load_mid rfl 39 (.tmp 20) rfl g1 (o1 + k * 12) rfl (actCells a (.slice pa2 a.picks.length pc2)) _ HR1.out Tryz.underlying39 rfl scr_info ?_)
        | (refine wpList_store_blk rfl 39 (.tmp 8) (.tmp 21) rfl wr.heap.size (actCells a (.slice pa2 a.picks.length pc2)) rfl rfl 39 (actCells arZero (.slice none 0 0)) (heap_alloc_new wr _) infoAct rfl (actCells_one _ _ _ _) ?_
           intro w5 hB5 hG5
           have hb5 : Below wr.heap.size wr w5 := ((Below.refl _ wr).alloc (Nat.le_refl _) _).grown hG5 (by simp) (fun j e => by injection e with e; omega)
           have HR5 := Lib.hid (rangeAt_below HR2.out hb5 hg2)
           have HB5 := Lib.hid hB5
           clear hB5 hG5)
        | (refine wpList_load_mid rfl 39 (.tmp 24) rfl g2 (o2 + k * 12) rfl (actCells b (.slice pb2 b.picks.length pd2)) _ HR5.out Tryz.underlying39 rfl scr_info ?_)
        | (refine wpList_store_blk rfl 39 (.tmp 9) (.tmp 25) rfl w5.heap.size (actCells b (.slice pb2 b.picks.length pd2)) rfl rfl 39 (actCells arZero (.slice none 0 0)) (heap_alloc_new w5 _) infoAct rfl (actCells_one _ _ _ _) ?_
           intro w6 hB6 hG6
           have hb6 : Below w5.heap.size w5 w6 := ((Below.refl _ w5).alloc (Nat.le_refl _) _).grown hG6 (by simp) (fun j e => by injection e with e; omega)
           have HR8 : Hid (w6.rangeAt wr.heap.size 0 (actCells a (.slice pa2 a.picks.length pc2))) := Lib.hid (blk_range (HB5.out.below hb6 HB5.out.lt))
           have HR9 : Hid (w6.rangeAt w5.heap.size 0 (actCells b (.slice pb2 b.picks.length pd2))) := Lib.hid (blk_range hB6)
           have hb7 := hb5.trans (hb6.mono hb5.size)
           clear hB6 hG6 hb6)
        | (refine wpList_load_mid rfl 39 (.tmp 8) rfl wr.heap.size 0 rfl (actCells a (.slice pa2 a.picks.length pc2)) _ HR8.out Tryz.underlying39 rfl scr_info ?_)
        | (refine wpList_load_mid rfl 39 (.tmp 9) rfl w5.heap.size 0 rfl (actCells b (.slice pb2 b.picks.length pd2)) _ HR9.out Tryz.underlying39 rfl scr_info ?_)
        | (go_at_fn 79; refine (HC.out _ (HP1.out.below hb7) (HP2.out.below hb7)).mono ?_; rintro e w1 ⟨⟨q, rfl, hq⟩, hb1⟩; have HQ := Lib.hid hq; have hb2 := hb7.trans (hb1.mono hb7.size); clear hq; cases q))
      · have hab : a ≠ b := by simpa using HQ.out
        have HN := Lib.hid hab
        clear hab
        go_ret
        refine ⟨sameR_f (fun h => ?_), hb.trans (hb2.mono hb.size)⟩
        have h1 := HX.out
        rw [h, HY.out] at h1
        injection h1 with h1
        exact HN.out h1.symm
      · have hab : a = b := by simpa using HQ.out
        have HN := Lib.hid hab
        clear hab
        go_roundw
        case rel => exact ⟨k + 1, by omega, by go_num, hb.trans (hb2.mono hb.size), Lib.hid (HA.out.below hb2), Lib.hid (HB.out.below hb2), Lib.hid (fun j hj => by
          by_cases e : j = k
          · subst e; rw [HX.out, HY.out, HN.out]
          · exact HJ.out j (by omega))⟩
        case measure => simp [intOf]; omega
    · obtain rfl : k = l.length := by omega
      clear hL
      go_wp2
      go_ret
      exact ⟨sameR_t (list_eq_of HL.out HJ.out), hb⟩

set_option maxRecDepth 100000 in
set_option maxHeartbeats 8000000 in
/-- script.Same at any two scripts -/
theorem same_any (a b : Scr) (pa pb : Option Addr) (ca cb : Nat) (w : World) (hl : a.acts.length ≤ 1000000000) (hfa : fewP a.acts) (hfb : fewP b.acts) (hA : ActsAt w pa a.acts) (hB : ActsAt w pb b.acts) :
    Calls Tryz.prog 35 #[.agg (scrCells a (.slice pa a.acts.length ca)).toArray, .agg (scrCells b (.slice pb b.acts.length cb)).toArray] w fun e w' => sameR a b e ∧ Below w.heap.size w w' := by
  have hX := (Blk.new w 63 (scrCells a (.slice pa a.acts.length ca))).alloc (.cells (scrCells b (.slice pb b.acts.length cb)).toArray 63)
  have hY := Blk.new (w.alloc (.cells (scrCells a (.slice pa a.acts.length ca)).toArray 63)) 63 (scrCells b (.slice pb b.acts.length cb))
  rw [World.size_alloc] at hY
  have hbel : Below w.heap.size w ((w.alloc (.cells (scrCells a (.slice pa a.acts.length ca)).toArray 63)).alloc (.cells (scrCells b (.slice pb b.acts.length cb)).toArray 63)) := ((Below.refl _ w).alloc (Nat.le_refl _) _).alloc (by simp) _
  have HA := Lib.hid (hA.below hbel)
  have HB := Lib.hid (hB.below hbel)
  clear hA hB
  have hq : ∀ W, ActsAt W pa a.acts → ActsAt W pb b.acts → Calls Tryz.prog 78 #[.slice pa a.acts.length ca, .slice pb b.acts.length cb, .func (.func 79) #[] #[]] W fun e w' => sameR a.acts b.acts e ∧ Below W.heap.size W w' := fun W h1 h2 => equalf_any a.acts b.acts pa pb ca cb W hl hfa hfb h1 h2
  have HQ := Lib.hid hq
  clear hq
  obtain ⟨⟨nodes, capacity, frames, quorum, delay⟩, acts⟩ := a
  obtain ⟨⟨nodes2, capacity2, frames2, quorum2, delay2⟩, acts2⟩ := b
  simp only [scrCells] at *
  have a0 := hX.cell 0; have a1 := hX.cell 1; have a2 := hX.cell 2; have a3 := hX.cell 3; have a4 := hX.cell 4; have a5 := hX.cell 5
  have b0 := hY.cell 0; have b1 := hY.cell 1; have b2 := hY.cell 2; have b3 := hY.cell 3; have b4 := hY.cell 4; have b5 := hY.cell 5
  have HX := Lib.hid hX
  have HY := Lib.hid hY
  clear hX hY
  by_cases e0 : ¬ nodes = nodes2
  · have g : ((nodes == nodes2) = false) := by simpa using e0
    have HE := Lib.hid e0
    clear e0 HA HB HQ
    go_enter Tryz.func35, Tryz.ntmps35
    go_wp2
    go_ret
    exact ⟨sameR_f fun h => HE.out (congrArg (fun s => s.set.nodes) h), hbel⟩
  replace e0 := Classical.not_not.1 e0
  subst e0
  by_cases e1 : ¬ capacity = capacity2
  · have g : ((capacity == capacity2) = false) := by simpa using e1
    have HE := Lib.hid e1
    clear e1 HA HB HQ
    go_enter Tryz.func35, Tryz.ntmps35
    go_wp2
    go_ret
    exact ⟨sameR_f fun h => HE.out (congrArg (fun s => s.set.capacity) h), hbel⟩
  replace e1 := Classical.not_not.1 e1
  subst e1
  by_cases e2 : ¬ frames = frames2
  · have g : ((frames == frames2) = false) := by simpa using e2
    have HE := Lib.hid e2
    clear e2 HA HB HQ
    go_enter Tryz.func35, Tryz.ntmps35
    go_wp2
    go_ret
    exact ⟨sameR_f fun h => HE.out (congrArg (fun s => s.set.frames) h), hbel⟩
  replace e2 := Classical.not_not.1 e2
  subst e2
  by_cases e3 : ¬ quorum = quorum2
  · have g : ((quorum == quorum2) = false) := by simpa using e3
    have HE := Lib.hid e3
    clear e3 HA HB HQ
    go_enter Tryz.func35, Tryz.ntmps35
    go_wp2
    go_ret
    exact ⟨sameR_f fun h => HE.out (congrArg (fun s => s.set.quorum) h), hbel⟩
  replace e3 := Classical.not_not.1 e3
  subst e3
  by_cases e4 : ¬ delay = delay2
  · have g : ((delay == delay2) = false) := by simpa using e4
    have HE := Lib.hid e4
    clear e4 HA HB HQ
    go_enter Tryz.func35, Tryz.ntmps35
    go_wp2
    go_ret
    exact ⟨sameR_f fun h => HE.out (congrArg (fun s => s.set.delay) h), hbel⟩
  replace e4 := Classical.not_not.1 e4
  subst e4
  clear HX HY
  go_enter Tryz.func35, Tryz.ntmps35
  go_wp2_with (go_at_call 78; refine (HQ.out _ HA.out HB.out).mono ?_; rintro e w1 ⟨⟨q, rfl, hq⟩, hb1⟩; have HR := Lib.hid hq; clear hq)
  go_ret
  exact ⟨⟨q, rfl, (fun h => by rw [HR.out.1 h]), (fun h => HR.out.2 (congrArg Scr.acts h))⟩, hbel.trans (hb1.mono hbel.size)⟩

set_option maxRecDepth 100000 in
set_option maxHeartbeats 8000000 in
/-- the document's Same at any two scripts -/
theorem refsames_any (a b : Scr) (pa pb : Option Addr) (ca cb : Nat) (w : World) (hl : a.acts.length ≤ 1000000000) (hfa : fewP a.acts) (hfb : fewP b.acts) (hA : ActsAt w pa a.acts) (hB : ActsAt w pb b.acts) :
    Calls Tryz.prog 34 #[.agg (scrCells a (.slice pa a.acts.length ca)).toArray, .agg (scrCells b (.slice pb b.acts.length cb)).toArray] w fun e w' => sameR a b e ∧ Below w.heap.size w w' := by
  have hX := (Blk.new w 63 (scrCells a (.slice pa a.acts.length ca))).alloc (.cells (scrCells b (.slice pb b.acts.length cb)).toArray 63)
  have hY := Blk.new (w.alloc (.cells (scrCells a (.slice pa a.acts.length ca)).toArray 63)) 63 (scrCells b (.slice pb b.acts.length cb))
  rw [World.size_alloc] at hY
  have hbel : Below w.heap.size w ((w.alloc (.cells (scrCells a (.slice pa a.acts.length ca)).toArray 63)).alloc (.cells (scrCells b (.slice pb b.acts.length cb)).toArray 63)) := ((Below.refl _ w).alloc (Nat.le_refl _) _).alloc (by simp) _
  have HA := Lib.hid (hA.below hbel)
  have HB := Lib.hid (hB.below hbel)
  clear hA hB
  have hq : ∀ W, ActsAt W pa a.acts → ActsAt W pb b.acts → Calls Tryz.prog 78 #[.slice pa a.acts.length ca, .slice pb b.acts.length cb, .func (.func 79) #[] #[]] W fun e w' => sameR a.acts b.acts e ∧ Below W.heap.size W w' := fun W h1 h2 => equalf_any a.acts b.acts pa pb ca cb W hl hfa hfb h1 h2
  have HQ := Lib.hid hq
  clear hq
  have HFA := Lib.hid hfa
  have HFB := Lib.hid hfb
  clear hfa hfb
  obtain ⟨⟨nodes, capacity, frames, quorum, delay⟩, acts⟩ := a
  obtain ⟨⟨nodes2, capacity2, frames2, quorum2, delay2⟩, acts2⟩ := b
  simp only [scrCells] at *
  have a0 := hX.cell 0; have a1 := hX.cell 1; have a2 := hX.cell 2; have a3 := hX.cell 3; have a4 := hX.cell 4; have a5 := hX.cell 5
  have b0 := hY.cell 0; have b1 := hY.cell 1; have b2 := hY.cell 2; have b3 := hY.cell 3; have b4 := hY.cell 4; have b5 := hY.cell 5
  have HX := Lib.hid hX
  have HY := Lib.hid hY
  clear hX hY
  by_cases e0 : ¬ nodes = nodes2
  · have g : ((nodes == nodes2) = false) := by simpa using e0
    have HE := Lib.hid e0
    clear e0 HA HB HQ
    go_enter Tryz.func34, Tryz.ntmps34
    go_wp2
    go_ret
    exact ⟨sameR_f fun h => HE.out (congrArg (fun s => s.set.nodes) h), hbel⟩
  replace e0 := Classical.not_not.1 e0
  subst e0
  by_cases e1 : ¬ capacity = capacity2
  · have g : ((capacity == capacity2) = false) := by simpa using e1
    have HE := Lib.hid e1
    clear e1 HA HB HQ
    go_enter Tryz.func34, Tryz.ntmps34
    go_wp2
    go_ret
    exact ⟨sameR_f fun h => HE.out (congrArg (fun s => s.set.capacity) h), hbel⟩
  replace e1 := Classical.not_not.1 e1
  subst e1
  by_cases e2 : ¬ frames = frames2
  · have g : ((frames == frames2) = false) := by simpa using e2
    have HE := Lib.hid e2
    clear e2 HA HB HQ
    go_enter Tryz.func34, Tryz.ntmps34
    go_wp2
    go_ret
    exact ⟨sameR_f fun h => HE.out (congrArg (fun s => s.set.frames) h), hbel⟩
  replace e2 := Classical.not_not.1 e2
  subst e2
  by_cases e3 : ¬ quorum = quorum2
  · have g : ((quorum == quorum2) = false) := by simpa using e3
    have HE := Lib.hid e3
    clear e3 HA HB HQ
    go_enter Tryz.func34, Tryz.ntmps34
    go_wp2
    go_ret
    exact ⟨sameR_f fun h => HE.out (congrArg (fun s => s.set.quorum) h), hbel⟩
  replace e3 := Classical.not_not.1 e3
  subst e3
  by_cases e4 : ¬ delay = delay2
  · have g : ((delay == delay2) = false) := by simpa using e4
    have HE := Lib.hid e4
    clear e4 HA HB HQ
    go_enter Tryz.func34, Tryz.ntmps34
    go_wp2
    go_ret
    exact ⟨sameR_f fun h => HE.out (congrArg (fun s => s.set.delay) h), hbel⟩
  replace e4 := Classical.not_not.1 e4
  subst e4
  clear HQ
  by_cases hlen : ¬ acts.length = acts2.length
  · have g : ((acts.length : Int) != (acts2.length : Int)) = true := by rw [bne_iff_ne]; omega
    have HE := Lib.hid hlen
    clear hlen
    go_enter Tryz.func34, Tryz.ntmps34
    go_wp2
    go_ret
    exact ⟨sameR_f fun h => HE.out (congrArg (fun s => s.acts.length) h), hbel⟩
  replace hlen := Classical.not_not.1 hlen
  have g : ((acts.length : Int) != (acts2.length : Int)) = false := by rw [hlen]; simp
  have HL := Lib.hid hlen
  clear hlen
  go_enter Tryz.func34, Tryz.ntmps34
  go_wp2
  go_loopw [5] (fun i wr => ∃ k : Nat, k ≤ acts.length ∧ i = .int .i64 k ∧ Below w.heap.size w wr ∧ Hid (Blk wr w.heap.size 63 [.int .i64 nodes, .int .i64 capacity, .int .i64 frames, .int .i64 quorum, .int .i64 delay, .slice pa acts.length ca]) ∧ Hid (Blk wr (w.heap.size + 1) 63 [.int .i64 nodes, .int .i64 capacity, .int .i64 frames, .int .i64 quorum, .int .i64 delay, .slice pb acts2.length cb]) ∧ Hid (ActsAt wr pa acts) ∧ Hid (ActsAt wr pb acts2) ∧ Hid (∀ j, j < k → acts[j]? = acts2[j]?)) (fun i _ => acts.length - (intOf i).toNat)
  case atStart => exact ⟨0, Nat.zero_le _, rfl, hbel, HX, HY, HA, HB, Lib.hid (fun j hj => by omega)⟩
  case round =>
    clear g hbel HA HB HX HY a0 a1 a2 a3 a4 a5 b0 b1 b2 b3 b4 b5
    obtain ⟨k, hk, rfl, hb, HX, HY, HA, HB, HJ⟩ := hrel
    have hL := HL.out
    have c5 : wr.cell? ⟨w.heap.size, 5, none⟩ = some (.slice pa acts.length ca) := HX.out.cell 5
    have d5 : wr.cell? ⟨w.heap.size + 1, 5, none⟩ = some (.slice pb acts2.length cb) := HY.out.cell 5
    by_cases hlt : k < acts.length
    · have hne : acts ≠ [] := fun e => by rw [e] at hlt; simp at hlt
      have hne2 : acts2 ≠ [] := fun e => by rw [e] at hL; simp at hL; rw [hL] at hlt; simp at hlt
      obtain ⟨a, ha⟩ : ∃ a, acts[k]? = some a := ⟨_, List.getElem?_eq_getElem hlt⟩
      obtain ⟨b, hb'⟩ : ∃ b, acts2[k]? = some b := ⟨_, List.getElem?_eq_getElem (by omega)⟩
      obtain ⟨g1, o1, rfl, hg1, hc1⟩ := HA.out hne
      obtain ⟨g2, o2, rfl, hg2, hc2⟩ := HB.out hne2
      obtain ⟨pa2, pc2, hr1, hp1⟩ := hc1 k a ha
      obtain ⟨pb2, pd2, hr2, hp2⟩ := hc2 k b hb'
      have HZ1 := Lib.hid ha
      have HZ2 := Lib.hid hb'
      have hcall := fun W h1 h2 => refsame_any a b pa2 pb2 pc2 pd2 W (HFA.out a (List.mem_of_getElem? ha)) (HFB.out b (List.mem_of_getElem? hb')) h1 h2
      have HC := Lib.hid hcall
      have HP1 := Lib.hid hp1
      have HP2 := Lib.hid hp2
      have HN1 := Lib.hid ha
      have HN2 := Lib.hid hb'
      obtain ⟨kd1, node1, source1, nn1, ⟨ak1, am1, akey1, atil1, avalue1, alevel1, alsn1⟩, picks1⟩ := a
      obtain ⟨kd2, node2, source2, nn2, ⟨ak2, am2, akey2, atil2, avalue2, alevel2, alsn2⟩, picks2⟩ := b
      simp only [actCells] at HC
      have hlt2 : (k : Int) < (acts.length : Int) := by omega
      have hlt3 : (k : Int) < (acts2.length : Int) := by omega
      have x0 : wr.cell? ⟨g1, o1 + k * 12, none⟩ = some (.int .i64 kd1) := hr1 0 _ rfl
      have x1 : wr.cell? ⟨g1, o1 + k * 12 + 1, none⟩ = some (.int .i64 node1) := hr1 1 _ rfl
      have x2 : wr.cell? ⟨g1, o1 + k * 12 + 2, none⟩ = some (.int .i64 source1) := hr1 2 _ rfl
      have x3 : wr.cell? ⟨g1, o1 + k * 12 + 3, none⟩ = some (.int .i64 nn1) := hr1 3 _ rfl
      have x4 : wr.cell? ⟨g1, o1 + k * 12 + 4, none⟩ = some (.int .i64 ak1) := hr1 4 _ rfl
      have x5 : wr.cell? ⟨g1, o1 + k * 12 + 5, none⟩ = some (.int .u64 (am1 : Int)) := hr1 5 _ rfl
      have x6 : wr.cell? ⟨g1, o1 + k * 12 + 6, none⟩ = some (.string akey1) := hr1 6 _ rfl
      have x7 : wr.cell? ⟨g1, o1 + k * 12 + 7, none⟩ = some (.string atil1) := hr1 7 _ rfl
      have x8 : wr.cell? ⟨g1, o1 + k * 12 + 8, none⟩ = some (.string avalue1) := hr1 8 _ rfl
      have x9 : wr.cell? ⟨g1, o1 + k * 12 + 9, none⟩ = some (.int .i64 alevel1) := hr1 9 _ rfl
      have x10 : wr.cell? ⟨g1, o1 + k * 12 + 10, none⟩ = some (.int .u64 (alsn1 : Int)) := hr1 10 _ rfl
      have x11 : wr.cell? ⟨g1, o1 + k * 12 + 11, none⟩ = some (.slice pa2 picks1.length pc2) := hr1 11 _ rfl
      have y0 : wr.cell? ⟨g2, o2 + k * 12, none⟩ = some (.int .i64 kd2) := hr2 0 _ rfl
      have y1 : wr.cell? ⟨g2, o2 + k * 12 + 1, none⟩ = some (.int .i64 node2) := hr2 1 _ rfl
      have y2 : wr.cell? ⟨g2, o2 + k * 12 + 2, none⟩ = some (.int .i64 source2) := hr2 2 _ rfl
      have y3 : wr.cell? ⟨g2, o2 + k * 12 + 3, none⟩ = some (.int .i64 nn2) := hr2 3 _ rfl
      have y4 : wr.cell? ⟨g2, o2 + k * 12 + 4, none⟩ = some (.int .i64 ak2) := hr2 4 _ rfl
      have y5 : wr.cell? ⟨g2, o2 + k * 12 + 5, none⟩ = some (.int .u64 (am2 : Int)) := hr2 5 _ rfl
      have y6 : wr.cell? ⟨g2, o2 + k * 12 + 6, none⟩ = some (.string akey2) := hr2 6 _ rfl
      have y7 : wr.cell? ⟨g2, o2 + k * 12 + 7, none⟩ = some (.string atil2) := hr2 7 _ rfl
      have y8 : wr.cell? ⟨g2, o2 + k * 12 + 8, none⟩ = some (.string avalue2) := hr2 8 _ rfl
      have y9 : wr.cell? ⟨g2, o2 + k * 12 + 9, none⟩ = some (.int .i64 alevel2) := hr2 9 _ rfl
      have y10 : wr.cell? ⟨g2, o2 + k * 12 + 10, none⟩ = some (.int .u64 (alsn2 : Int)) := hr2 10 _ rfl
      have y11 : wr.cell? ⟨g2, o2 + k * 12 + 11, none⟩ = some (.slice pb2 picks2.length pd2) := hr2 11 _ rfl
      clear hc1 hc2 ha hb' hp1 hp2 hne hne2 hL hcall hr1 hr2
      go_wp2_with fail
      go_region_held3 (fun W => W.cell? ⟨w.heap.size, 5, none⟩ = some (.slice (some ⟨g1, o1, none⟩) acts.length ca) ∧ W.cell? ⟨w.heap.size + 1, 5, none⟩ = some (.slice (some ⟨g2, o2, none⟩) acts2.length cb) ∧ W.cell? ⟨g1, o1 + k * 12, none⟩ = some (.int .i64 kd1) ∧ W.cell? ⟨g1, o1 + k * 12 + 1, none⟩ = some (.int .i64 node1) ∧ W.cell? ⟨g1, o1 + k * 12 + 2, none⟩ = some (.int .i64 source1) ∧ W.cell? ⟨g1, o1 + k * 12 + 3, none⟩ = some (.int .i64 nn1) ∧ W.cell? ⟨g1, o1 + k * 12 + 4, none⟩ = some (.int .i64 ak1) ∧ W.cell? ⟨g1, o1 + k * 12 + 5, none⟩ = some (.int .u64 (am1 : Int)) ∧ W.cell? ⟨g1, o1 + k * 12 + 6, none⟩ = some (.string akey1) ∧ W.cell? ⟨g1, o1 + k * 12 + 7, none⟩ = some (.string atil1) ∧ W.cell? ⟨g1, o1 + k * 12 + 8, none⟩ = some (.string avalue1) ∧ W.cell? ⟨g1, o1 + k * 12 + 9, none⟩ = some (.int .i64 alevel1) ∧ W.cell? ⟨g1, o1 + k * 12 + 10, none⟩ = some (.int .u64 (alsn1 : Int)) ∧ W.cell? ⟨g1, o1 + k * 12 + 11, none⟩ = some (.slice pa2 picks1.length pc2) ∧ W.cell? ⟨g2, o2 + k * 12, none⟩ = some (.int .i64 kd2) ∧ W.cell? ⟨g2, o2 + k * 12 + 1, none⟩ = some (.int .i64 node2) ∧ W.cell? ⟨g2, o2 + k * 12 + 2, none⟩ = some (.int .i64 source2) ∧ W.cell? ⟨g2, o2 + k * 12 + 3, none⟩ = some (.int .i64 nn2) ∧ W.cell? ⟨g2, o2 + k * 12 + 4, none⟩ = some (.int .i64 ak2) ∧ W.cell? ⟨g2, o2 + k * 12 + 5, none⟩ = some (.int .u64 (am2 : Int)) ∧ W.cell? ⟨g2, o2 + k * 12 + 6, none⟩ = some (.string akey2) ∧ W.cell? ⟨g2, o2 + k * 12 + 7, none⟩ = some (.string atil2) ∧ W.cell? ⟨g2, o2 + k * 12 + 8, none⟩ = some (.string avalue2) ∧ W.cell? ⟨g2, o2 + k * 12 + 9, none⟩ = some (.int .i64 alevel2) ∧ W.cell? ⟨g2, o2 + k * 12 + 10, none⟩ = some (.int .u64 (alsn2 : Int)) ∧ W.cell? ⟨g2, o2 + k * 12 + 11, none⟩ = some (.slice pb2 picks2.length pd2)) (first | exact hS1 | go_keep) (first
        | (go_at_call 26; (with_reducible refine (HC.out _ ?_ ?_).mono ?_); exact (fun h => HP1.out h); exact (fun h => HP2.out h); rintro e w1 ⟨⟨q, rfl, hq⟩, hb1⟩; have HQ := Lib.hid hq; have hb2 : Below wr.heap.size wr w1 := below_undrew hb1; clear hq hb1; have hS1 := And.intro ((hb2.cell (p := ⟨w.heap.size, 5, none⟩) HX.out.lt).trans c5) (And.intro ((hb2.cell (p := ⟨w.heap.size + 1, 5, none⟩) HY.out.lt).trans d5) (And.intro ((hb2.cell (p := ⟨g1, o1 + k * 12, none⟩) hg1).trans x0) (And.intro ((hb2.cell (p := ⟨g1, o1 + k * 12 + 1, none⟩) hg1).trans x1) (And.intro ((hb2.cell (p := ⟨g1, o1 + k * 12 + 2, none⟩) hg1).trans x2) (And.intro ((hb2.cell (p := ⟨g1, o1 + k * 12 + 3, none⟩) hg1).trans x3) (And.intro ((hb2.cell (p := ⟨g1, o1 + k * 12 + 4, none⟩) hg1).trans x4) (And.intro ((hb2.cell (p := ⟨g1, o1 + k * 12 + 5, none⟩) hg1).trans x5) (And.intro ((hb2.cell (p := ⟨g1, o1 + k * 12 + 6, none⟩) hg1).trans x6) (And.intro ((hb2.cell (p := ⟨g1, o1 + k * 12 + 7, none⟩) hg1).trans x7) (And.intro ((hb2.cell (p := ⟨g1, o1 + k * 12 + 8, none⟩) hg1).trans x8) (And.intro ((hb2.cell (p := ⟨g1, o1 + k * 12 + 9, none⟩) hg1).trans x9) (And.intro ((hb2.cell (p := ⟨g1, o1 + k * 12 + 10, none⟩) hg1).trans x10) (And.intro ((hb2.cell (p := ⟨g1, o1 + k * 12 + 11, none⟩) hg1).trans x11) (And.intro ((hb2.cell (p := ⟨g2, o2 + k * 12, none⟩) hg2).trans y0) (And.intro ((hb2.cell (p := ⟨g2, o2 + k * 12 + 1, none⟩) hg2).trans y1) (And.intro ((hb2.cell (p := ⟨g2, o2 + k * 12 + 2, none⟩) hg2).trans y2) (And.intro ((hb2.cell (p := ⟨g2, o2 + k * 12 + 3, none⟩) hg2).trans y3) (And.intro ((hb2.cell (p := ⟨g2, o2 + k * 12 + 4, none⟩) hg2).trans y4) (And.intro ((hb2.cell (p := ⟨g2, o2 + k * 12 + 5, none⟩) hg2).trans y5) (And.intro ((hb2.cell (p := ⟨g2, o2 + k * 12 + 6, none⟩) hg2).trans y6) (And.intro ((hb2.cell (p := ⟨g2, o2 + k * 12 + 7, none⟩) hg2).trans y7) (And.intro ((hb2.cell (p := ⟨g2, o2 + k * 12 + 8, none⟩) hg2).trans y8) (And.intro ((hb2.cell (p := ⟨g2, o2 + k * 12 + 9, none⟩) hg2).trans y9) (And.intro ((hb2.cell (p := ⟨g2, o2 + k * 12 + 10, none⟩) hg2).trans y10) ((hb2.cell (p := ⟨g2, o2 + k * 12 + 11, none⟩) hg2).trans y11)))))))))))))))))))))))))))
      all_goals
        clear x0 x1 x2 x3 x4 x5 x6 x7 x8 x9 x10 x11 y0 y1 y2 y3 y4 y5 y6 y7 y8 y9 y10 y11 c5 d5
        cases q
        · have hab := HQ.out
          have HN := Lib.hid (no_of hab)
          clear hab
          go_wp2
          go_ret
          refine ⟨sameR_f (fun h => ?_), hb.trans (hb2.mono hb.size)⟩
          have h1 := HN1.out
          rw [show acts = acts2 from congrArg Scr.acts h, HN2.out] at h1
          injection h1 with h1
          exact HN.out h1.symm
        · have hab := HQ.out.1 rfl
          have HN := Lib.hid hab
          clear hab
          go_wp2
          go_roundw
          case rel => exact ⟨k + 1, by omega, by go_num, hb.trans (hb2.mono hb.size), Lib.hid (HX.out.below hb2 HX.out.lt), Lib.hid (HY.out.below hb2 HY.out.lt), Lib.hid (HA.out.below hb2), Lib.hid (HB.out.below hb2), Lib.hid (fun j hj => by
            by_cases e : j = k
            · subst e; rw [HN1.out, HN2.out, HN.out]
            · exact HJ.out j (by omega))⟩
          case measure => simp [intOf]; omega
    · obtain rfl : k = acts.length := by omega
      clear hL
      go_wp2
      go_ret
      refine ⟨sameR_t ?_, hb⟩
      rw [list_eq_of HL.out HJ.out]
end Go.Proofs.YtgplaeopcejmoaaGreatDoor
