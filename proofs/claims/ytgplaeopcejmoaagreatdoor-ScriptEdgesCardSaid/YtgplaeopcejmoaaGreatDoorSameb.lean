/- Two acts: the same, or not? The document's SameAct, the program's Same; two rows of numbers. -/
import Derived.Test.YtgplaeopcejmoaaGreatDoorRsame
import Derived.Laws.StructEq
namespace Go.Proofs.YtgplaeopcejmoaaGreatDoor
open Go.RowKit

theorem toList_inj {a b : ByteArray} (h : a.toList = b.toList) : a = b := by
  rw [toList_bs, toList_bs] at h
  rw [← txt_bs a, h, txt_bs]
theorem no_iff {α : Type} {a b : α} (h : a ≠ b) : (false = true ↔ a = b) := ⟨(fun e => by cases e), (fun e => absurd e h)⟩
theorem list_eq_of {α : Type} {l r : List α} (hl : l.length = r.length) (h : ∀ j, j < l.length → l[j]? = r[j]?) : l = r := by
  apply List.ext_getElem?
  intro j
  by_cases hj : j < l.length
  · exact h j hj
  · rw [List.getElem?_eq_none (by omega), List.getElem?_eq_none (by omega)]

set_option maxRecDepth 100000 in
set_option maxHeartbeats 16000000 in
/-- the document's SameAct at any two acts -/
theorem refsame_any (a b : Ar) (pa pb : Option Addr) (ca cb : Nat) (w : World) (hla : a.picks.length ≤ 1000000) (hlb : b.picks.length ≤ 1000000) (ha : PkAt w pa a.picks) (hb : PkAt w pb b.picks) :
    Calls Tryz.prog 26 #[.agg (actCells a (.slice pa a.picks.length ca)).toArray, .agg (actCells b (.slice pb b.picks.length cb)).toArray] w fun e w' => (∃ r : Bool, e = .returned (.bool r) ∧ (r = true ↔ a = b)) ∧ Below w.heap.size w w' := by
  have hA := (Blk.new w 39 (actCells a (.slice pa a.picks.length ca))).alloc (.cells (actCells b (.slice pb b.picks.length cb)).toArray 39)
  have hB := Blk.new (w.alloc (.cells (actCells a (.slice pa a.picks.length ca)).toArray 39)) 39 (actCells b (.slice pb b.picks.length cb))
  rw [World.size_alloc] at hB
  have hbel : Below w.heap.size w ((w.alloc (.cells (actCells a (.slice pa a.picks.length ca)).toArray 39)).alloc (.cells (actCells b (.slice pb b.picks.length cb)).toArray 39)) := ((Below.refl _ w).alloc (Nat.le_refl _) _).alloc (by simp) _
  have ha2 := ha.below hbel
  have hb2 := hb.below hbel
  clear ha hb
  have HA2 := Lib.hid ha2
  have HB2 := Lib.hid hb2
  clear ha2 hb2
  obtain ⟨kind, node, source, n, ⟨k', m, key, til, value, level, lsn⟩, picks⟩ := a
  obtain ⟨kind2, node2, source2, n2, ⟨k2, m2, key2, til2, value2, level2, lsn2⟩, picks2⟩ := b
  simp only [actCells] at *
  have a0 := hA.cell 0; have a1 := hA.cell 1; have a2 := hA.cell 2; have a3 := hA.cell 3; have a4 := hA.cell 4; have a5 := hA.cell 5; have a6 := hA.cell 6; have a7 := hA.cell 7; have a8 := hA.cell 8; have a9 := hA.cell 9; have a10 := hA.cell 10; have a11 := hA.cell 11
  have b0 := hB.cell 0; have b1 := hB.cell 1; have b2 := hB.cell 2; have b3 := hB.cell 3; have b4 := hB.cell 4; have b5 := hB.cell 5; have b6 := hB.cell 6; have b7 := hB.cell 7; have b8 := hB.cell 8; have b9 := hB.cell 9; have b10 := hB.cell 10; have b11 := hB.cell 11
  have HA := Lib.hid hA
  have HB := Lib.hid hB
  clear hA hB
  by_cases e0 : ¬ kind = kind2
  · have g : (kind != kind2) = true := by simpa using e0
    have HE := Lib.hid e0
    clear e0 HA2 HB2 HA HB hla hlb
    go_enter Tryz.func26, Tryz.ntmps26
    go_wp2
    all_goals
      go_ret
      exact ⟨⟨false, rfl, no_iff fun h => HE.out (congrArg (fun a => a.kind) h)⟩, hbel⟩
  replace e0 := Classical.not_not.1 e0
  subst e0
  by_cases e1 : ¬ node = node2
  · have g : (node != node2) = true := by simpa using e1
    have HE := Lib.hid e1
    clear e1 HA2 HB2 HA HB hla hlb
    go_enter Tryz.func26, Tryz.ntmps26
    go_wp2
    all_goals
      go_ret
      exact ⟨⟨false, rfl, no_iff fun h => HE.out (congrArg (fun a => a.node) h)⟩, hbel⟩
  replace e1 := Classical.not_not.1 e1
  subst e1
  by_cases e2 : ¬ source = source2
  · have g : (source != source2) = true := by simpa using e2
    have HE := Lib.hid e2
    clear e2 HA2 HB2 HA HB hla hlb
    go_enter Tryz.func26, Tryz.ntmps26
    go_wp2
    all_goals
      go_ret
      exact ⟨⟨false, rfl, no_iff fun h => HE.out (congrArg (fun a => a.source) h)⟩, hbel⟩
  replace e2 := Classical.not_not.1 e2
  subst e2
  by_cases e3 : ¬ n = n2
  · have g : (n != n2) = true := by simpa using e3
    have HE := Lib.hid e3
    clear e3 HA2 HB2 HA HB hla hlb
    go_enter Tryz.func26, Tryz.ntmps26
    go_wp2
    all_goals
      go_ret
      exact ⟨⟨false, rfl, no_iff fun h => HE.out (congrArg (fun a => a.n) h)⟩, hbel⟩
  replace e3 := Classical.not_not.1 e3
  subst e3
  by_cases e4 : ¬ k' = k2
  · have g : (k' == k2) = false := by simpa using e4
    have HE := Lib.hid e4
    clear e4 HA2 HB2 HA HB hla hlb
    go_enter Tryz.func26, Tryz.ntmps26
    go_wp2
    all_goals
      go_ret
      exact ⟨⟨false, rfl, no_iff fun h => HE.out (congrArg (fun a => a.op.kind) h)⟩, hbel⟩
  replace e4 := Classical.not_not.1 e4
  subst e4
  by_cases e5 : ¬ m = m2
  · have g : ((m : Int) == (m2 : Int)) = false := beq_eq_false_iff_ne.2 (by omega)
    have HE := Lib.hid e5
    clear e5 HA2 HB2 HA HB hla hlb
    go_enter Tryz.func26, Tryz.ntmps26
    go_wp2
    all_goals
      go_ret
      exact ⟨⟨false, rfl, no_iff fun h => HE.out (congrArg (fun a => a.op.n) h)⟩, hbel⟩
  replace e5 := Classical.not_not.1 e5
  subst e5
  by_cases e6 : ¬ key = key2
  · have g : (key.toList == key2.toList) = false := by simpa using (fun h => e6 (toList_inj h))
    have HE := Lib.hid e6
    clear e6 HA2 HB2 HA HB hla hlb
    go_enter Tryz.func26, Tryz.ntmps26
    go_wp2
    all_goals
      go_ret
      exact ⟨⟨false, rfl, no_iff fun h => HE.out (congrArg (fun a => a.op.key) h)⟩, hbel⟩
  replace e6 := Classical.not_not.1 e6
  subst e6
  by_cases e7 : ¬ til = til2
  · have g : (til.toList == til2.toList) = false := by simpa using (fun h => e7 (toList_inj h))
    have HE := Lib.hid e7
    clear e7 HA2 HB2 HA HB hla hlb
    go_enter Tryz.func26, Tryz.ntmps26
    go_wp2
    all_goals
      go_ret
      exact ⟨⟨false, rfl, no_iff fun h => HE.out (congrArg (fun a => a.op.til) h)⟩, hbel⟩
  replace e7 := Classical.not_not.1 e7
  subst e7
  by_cases e8 : ¬ value = value2
  · have g : (value.toList == value2.toList) = false := by simpa using (fun h => e8 (toList_inj h))
    have HE := Lib.hid e8
    clear e8 HA2 HB2 HA HB hla hlb
    go_enter Tryz.func26, Tryz.ntmps26
    go_wp2
    all_goals
      go_ret
      exact ⟨⟨false, rfl, no_iff fun h => HE.out (congrArg (fun a => a.op.value) h)⟩, hbel⟩
  replace e8 := Classical.not_not.1 e8
  subst e8
  by_cases e9 : ¬ level = level2
  · have g : (level == level2) = false := by simpa using e9
    have HE := Lib.hid e9
    clear e9 HA2 HB2 HA HB hla hlb
    go_enter Tryz.func26, Tryz.ntmps26
    go_wp2
    all_goals
      go_ret
      exact ⟨⟨false, rfl, no_iff fun h => HE.out (congrArg (fun a => a.op.level) h)⟩, hbel⟩
  replace e9 := Classical.not_not.1 e9
  subst e9
  by_cases e10 : ¬ lsn = lsn2
  · have g : ((lsn : Int) == (lsn2 : Int)) = false := beq_eq_false_iff_ne.2 (by omega)
    have HE := Lib.hid e10
    clear e10 HA2 HB2 HA HB hla hlb
    go_enter Tryz.func26, Tryz.ntmps26
    go_wp2
    all_goals
      go_ret
      exact ⟨⟨false, rfl, no_iff fun h => HE.out (congrArg (fun a => a.op.lsn) h)⟩, hbel⟩
  replace e10 := Classical.not_not.1 e10
  subst e10
  by_cases hlen : ¬ picks.length = picks2.length
  · have g : ((picks.length : Int) != (picks2.length : Int)) = true := by rw [bne_iff_ne]; omega
    have HE := Lib.hid hlen
    clear hlen HA2 HB2 HA HB hla hlb
    go_enter Tryz.func26, Tryz.ntmps26
    go_wp2
    go_ret
    exact ⟨⟨false, rfl, no_iff fun h => HE.out (congrArg (fun a => a.picks.length) h)⟩, hbel⟩
  replace hlen := Classical.not_not.1 hlen
  have g : ((picks.length : Int) != (picks2.length : Int)) = false := by rw [hlen]; simp
  have HL := Lib.hid hlen
  clear hlen
  go_enter Tryz.func26, Tryz.ntmps26
  go_wp2
  go_loopw [5] (fun i wr => ∃ k : Nat, k ≤ picks.length ∧ i = .int .i64 k ∧ Below w.heap.size w wr ∧ Hid (Blk wr w.heap.size 39 [.int .i64 kind, .int .i64 node, .int .i64 source, .int .i64 n, .int .i64 k', .int .u64 (m : Int), .string key, .string til, .string value, .int .i64 level, .int .u64 (lsn : Int), .slice pa picks.length ca]) ∧ Hid (Blk wr (w.heap.size + 1) 39 [.int .i64 kind, .int .i64 node, .int .i64 source, .int .i64 n, .int .i64 k', .int .u64 (m : Int), .string key, .string til, .string value, .int .i64 level, .int .u64 (lsn : Int), .slice pb picks2.length cb]) ∧ Hid (PkAt wr pa picks) ∧ Hid (PkAt wr pb picks2) ∧ Hid (∀ j, j < k → picks[j]? = picks2[j]?)) (fun i _ => picks.length - (intOf i).toNat)
  case atStart => exact ⟨0, Nat.zero_le _, rfl, hbel, HA, HB, HA2, HB2, Lib.hid (fun j hj => by omega)⟩
  case round =>
    clear a0 a1 a2 a3 a4 a5 a6 a7 a8 a9 a10 a11 b0 b1 b2 b3 b4 b5 b6 b7 b8 b9 b10 b11 g hbel HA HB HA2 HB2
    obtain ⟨k, hk, rfl, hb, HA, HB, HA2, HB2, HJ⟩ := hrel
    have q1 : wr.cell? ⟨w.heap.size, 11, none⟩ = some (.slice pa picks.length ca) := HA.out.cell 11
    have q2 : wr.cell? ⟨w.heap.size + 1, 11, none⟩ = some (.slice pb picks2.length cb) := HB.out.cell 11
    have hL := HL.out
    by_cases hlt : k < picks.length
    · have hne : picks ≠ [] := fun e => by rw [e] at hlt; simp at hlt
      have hne2 : picks2 ≠ [] := fun e => by rw [e] at hL; simp at hL; rw [hL] at hlt; simp at hlt
      obtain ⟨x, hx⟩ : ∃ x, picks[k]? = some x := ⟨_, List.getElem?_eq_getElem hlt⟩
      obtain ⟨y, hy⟩ : ∃ y, picks2[k]? = some y := ⟨_, List.getElem?_eq_getElem (by omega)⟩
      obtain ⟨g, o, rfl, hg, hc⟩ := HA2.out hne
      obtain ⟨g', o', rfl, hg', hc'⟩ := HB2.out hne2
      have y1 := hc k x hx
      have y2 := hc' k y hy
      have HX := Lib.hid hx
      have HY := Lib.hid hy
      have hlt2 : (k : Int) < (picks2.length : Int) := by omega
      clear hc hc' hx hy hne hne2 hL
      by_cases hxy : x = y
      · subst hxy
        go_wp2
        go_quiet (fail)
        go_wp2
        go_roundw
        case rel => exact ⟨k + 1, by omega, by go_num, below_drewN hb _, Lib.hid (HA.out.drewN _), Lib.hid (HB.out.drewN _), Lib.hid (fun h => HA2.out h), Lib.hid (fun h => HB2.out h), Lib.hid (fun j hj => by
          by_cases e : j = k
          · subst e; rw [HX.out, HY.out]
          · exact HJ.out j (by omega))⟩
        case measure => simp [intOf]; omega
      · have gx : (x != y) = true := by simpa using hxy
        have HN := Lib.hid hxy
        clear hxy
        go_wp2
        go_quiet (fail)
        go_wp2
        go_ret
        exact ⟨⟨false, rfl, no_iff fun h => HN.out (by
          have h1 := HX.out
          rw [show picks = picks2 from congrArg Ar.picks h, HY.out] at h1
          injection h1 with h1
          exact h1.symm)⟩, below_drewN hb _⟩
    · obtain rfl : k = picks.length := by omega
      clear hL
      go_wp2
      go_ret
      have hpp := list_eq_of HL.out HJ.out
      exact ⟨⟨true, rfl, (fun _ => by rw [hpp]), (fun _ => rfl)⟩, hb⟩

set_option maxRecDepth 100000 in
set_option maxHeartbeats 4000000 in
/-- slices.Equal at rows of numbers -/
theorem equal_any (l r : List Int) (pa pb : Option Addr) (ca cb : Nat) (w : World) (hla : l.length ≤ 1000000) (_ : r.length ≤ 1000000) (ha : PkAt w pa l) (hb : PkAt w pb r) :
    Calls Tryz.prog 80 #[.slice pa l.length ca, .slice pb r.length cb] w fun e w' => (∃ b : Bool, e = .returned (.bool b) ∧ (b = true ↔ l = r)) ∧ Below w.heap.size w w' := by
  have HA2 := Lib.hid ha
  have HB2 := Lib.hid hb
  clear ha hb
  have hbel := Below.refl w.heap.size w
  by_cases hlen : ¬ l.length = r.length
  · have g : ((l.length : Int) != (r.length : Int)) = true := by rw [bne_iff_ne]; omega
    have HE := Lib.hid hlen
    clear hlen
    go_enter Tryz.func80, Tryz.ntmps80
    go_wp2
    go_ret
    exact ⟨⟨false, rfl, no_iff fun h => HE.out (congrArg List.length h)⟩, hbel⟩
  replace hlen := Classical.not_not.1 hlen
  have g : ((l.length : Int) != (r.length : Int)) = false := by rw [hlen]; simp
  have HL := Lib.hid hlen
  clear hlen
  go_enter Tryz.func80, Tryz.ntmps80
  go_wp2
  go_loopw [13] (fun i wr => ∃ k : Nat, k ≤ l.length ∧ i = .int .i64 k ∧ Below w.heap.size w wr ∧ Hid (PkAt wr pa l) ∧ Hid (PkAt wr pb r) ∧ Hid (∀ j, j < k → l[j]? = r[j]?)) (fun i _ => l.length - (intOf i).toNat)
  case atStart => exact ⟨0, Nat.zero_le _, rfl, hbel, HA2, HB2, Lib.hid (fun j hj => by omega)⟩
  case round =>
    clear g hbel HA2 HB2
    obtain ⟨k, hk, rfl, hb, HA2, HB2, HJ⟩ := hrel
    have hL := HL.out
    by_cases hlt : k < l.length
    · have hne : l ≠ [] := fun e => by rw [e] at hlt; simp at hlt
      have hne2 : r ≠ [] := fun e => by rw [e] at hL; simp at hL; rw [hL] at hlt; simp at hlt
      obtain ⟨x, hx⟩ : ∃ x, l[k]? = some x := ⟨_, List.getElem?_eq_getElem hlt⟩
      obtain ⟨y, hy⟩ : ∃ y, r[k]? = some y := ⟨_, List.getElem?_eq_getElem (by omega)⟩
      obtain ⟨g, o, rfl, hg, hc⟩ := HA2.out hne
      obtain ⟨g', o', rfl, hg', hc'⟩ := HB2.out hne2
      have y1 := hc k x hx
      have y2 := hc' k y hy
      have HX := Lib.hid hx
      have HY := Lib.hid hy
      have hlt2 : (k : Int) < (r.length : Int) := by omega
      clear hc hc' hx hy hne hne2 hL
      by_cases hxy : x = y
      · subst hxy
        go_wp2
        go_quiet (fail)
        go_wp2
        go_roundw
        case rel => exact ⟨k + 1, by omega, by go_num, below_drewN hb _, Lib.hid (fun h => HA2.out h), Lib.hid (fun h => HB2.out h), Lib.hid (fun j hj => by
          by_cases e : j = k
          · subst e; rw [HX.out, HY.out]
          · exact HJ.out j (by omega))⟩
        case measure => simp [intOf]; omega
      · have gx : (x != y) = true := by simpa using hxy
        have HN := Lib.hid hxy
        clear hxy
        go_wp2
        go_quiet (fail)
        go_wp2
        go_ret
        exact ⟨⟨false, rfl, no_iff fun h => HN.out (by
          have h1 := HX.out
          rw [h, HY.out] at h1
          injection h1 with h1
          exact h1.symm)⟩, below_drewN hb _⟩
    · obtain rfl : k = l.length := by omega
      clear hL
      go_wp2
      go_ret
      have hpp := list_eq_of HL.out HJ.out
      exact ⟨⟨true, rfl, (fun _ => hpp), (fun _ => rfl)⟩, hb⟩

set_option maxRecDepth 100000 in
set_option maxHeartbeats 16000000 in
/-- the program's test of two acts -/
theorem same1_any (a b : Ar) (pa pb : Option Addr) (ca cb : Nat) (w : World) (hla : a.picks.length ≤ 1000000) (hlb : b.picks.length ≤ 1000000) (ha : PkAt w pa a.picks) (hb : PkAt w pb b.picks) :
    Calls Tryz.prog 79 #[.agg (actCells a (.slice pa a.picks.length ca)).toArray, .agg (actCells b (.slice pb b.picks.length cb)).toArray] w fun e w' => (∃ r : Bool, e = .returned (.bool r) ∧ (r = true ↔ a = b)) ∧ Below w.heap.size w w' := by
  have hA := (Blk.new w 39 (actCells a (.slice pa a.picks.length ca))).alloc (.cells (actCells b (.slice pb b.picks.length cb)).toArray 39)
  have hB := Blk.new (w.alloc (.cells (actCells a (.slice pa a.picks.length ca)).toArray 39)) 39 (actCells b (.slice pb b.picks.length cb))
  rw [World.size_alloc] at hB
  have hbel : Below w.heap.size w ((w.alloc (.cells (actCells a (.slice pa a.picks.length ca)).toArray 39)).alloc (.cells (actCells b (.slice pb b.picks.length cb)).toArray 39)) := ((Below.refl _ w).alloc (Nat.le_refl _) _).alloc (by simp) _
  have ha2 := ha.below hbel
  have hb2 := hb.below hbel
  clear ha hb
  have HA2 := Lib.hid ha2
  have HB2 := Lib.hid hb2
  clear ha2 hb2
  obtain ⟨kind, node, source, n, ⟨k', m, key, til, value, level, lsn⟩, picks⟩ := a
  obtain ⟨kind2, node2, source2, n2, ⟨k2, m2, key2, til2, value2, level2, lsn2⟩, picks2⟩ := b
  simp only [actCells] at *
  have a0 := hA.cell 0; have a1 := hA.cell 1; have a2 := hA.cell 2; have a3 := hA.cell 3; have a4 := hA.cell 4; have a5 := hA.cell 5; have a6 := hA.cell 6; have a7 := hA.cell 7; have a8 := hA.cell 8; have a9 := hA.cell 9; have a10 := hA.cell 10; have a11 := hA.cell 11
  have b0 := hB.cell 0; have b1 := hB.cell 1; have b2 := hB.cell 2; have b3 := hB.cell 3; have b4 := hB.cell 4; have b5 := hB.cell 5; have b6 := hB.cell 6; have b7 := hB.cell 7; have b8 := hB.cell 8; have b9 := hB.cell 9; have b10 := hB.cell 10; have b11 := hB.cell 11
  have HA := Lib.hid hA
  have HB := Lib.hid hB
  clear hA hB
  by_cases e0 : ¬ kind = kind2
  · have g : (kind == kind2) = false := by simpa using e0
    have HE := Lib.hid e0
    clear e0 HA2 HB2 HA HB hla hlb
    go_enter Tryz.func79, Tryz.ntmps79
    go_wp2
    all_goals
      go_ret
      exact ⟨⟨false, rfl, no_iff fun h => HE.out (congrArg (fun a => a.kind) h)⟩, hbel⟩
  replace e0 := Classical.not_not.1 e0
  subst e0
  by_cases e1 : ¬ node = node2
  · have g : (node == node2) = false := by simpa using e1
    have HE := Lib.hid e1
    clear e1 HA2 HB2 HA HB hla hlb
    go_enter Tryz.func79, Tryz.ntmps79
    go_wp2
    all_goals
      go_ret
      exact ⟨⟨false, rfl, no_iff fun h => HE.out (congrArg (fun a => a.node) h)⟩, hbel⟩
  replace e1 := Classical.not_not.1 e1
  subst e1
  by_cases e2 : ¬ source = source2
  · have g : (source == source2) = false := by simpa using e2
    have HE := Lib.hid e2
    clear e2 HA2 HB2 HA HB hla hlb
    go_enter Tryz.func79, Tryz.ntmps79
    go_wp2
    all_goals
      go_ret
      exact ⟨⟨false, rfl, no_iff fun h => HE.out (congrArg (fun a => a.source) h)⟩, hbel⟩
  replace e2 := Classical.not_not.1 e2
  subst e2
  by_cases e3 : ¬ n = n2
  · have g : (n == n2) = false := by simpa using e3
    have HE := Lib.hid e3
    clear e3 HA2 HB2 HA HB hla hlb
    go_enter Tryz.func79, Tryz.ntmps79
    go_wp2
    all_goals
      go_ret
      exact ⟨⟨false, rfl, no_iff fun h => HE.out (congrArg (fun a => a.n) h)⟩, hbel⟩
  replace e3 := Classical.not_not.1 e3
  subst e3
  by_cases e4 : ¬ k' = k2
  · have g : (k' == k2) = false := by simpa using e4
    have HE := Lib.hid e4
    clear e4 HA2 HB2 HA HB hla hlb
    go_enter Tryz.func79, Tryz.ntmps79
    go_wp2
    all_goals
      go_ret
      exact ⟨⟨false, rfl, no_iff fun h => HE.out (congrArg (fun a => a.op.kind) h)⟩, hbel⟩
  replace e4 := Classical.not_not.1 e4
  subst e4
  by_cases e5 : ¬ m = m2
  · have g : ((m : Int) == (m2 : Int)) = false := beq_eq_false_iff_ne.2 (by omega)
    have HE := Lib.hid e5
    clear e5 HA2 HB2 HA HB hla hlb
    go_enter Tryz.func79, Tryz.ntmps79
    go_wp2
    all_goals
      go_ret
      exact ⟨⟨false, rfl, no_iff fun h => HE.out (congrArg (fun a => a.op.n) h)⟩, hbel⟩
  replace e5 := Classical.not_not.1 e5
  subst e5
  by_cases e6 : ¬ key = key2
  · have g : (key.toList == key2.toList) = false := by simpa using (fun h => e6 (toList_inj h))
    have HE := Lib.hid e6
    clear e6 HA2 HB2 HA HB hla hlb
    go_enter Tryz.func79, Tryz.ntmps79
    go_wp2
    all_goals
      go_ret
      exact ⟨⟨false, rfl, no_iff fun h => HE.out (congrArg (fun a => a.op.key) h)⟩, hbel⟩
  replace e6 := Classical.not_not.1 e6
  subst e6
  by_cases e7 : ¬ til = til2
  · have g : (til.toList == til2.toList) = false := by simpa using (fun h => e7 (toList_inj h))
    have HE := Lib.hid e7
    clear e7 HA2 HB2 HA HB hla hlb
    go_enter Tryz.func79, Tryz.ntmps79
    go_wp2
    all_goals
      go_ret
      exact ⟨⟨false, rfl, no_iff fun h => HE.out (congrArg (fun a => a.op.til) h)⟩, hbel⟩
  replace e7 := Classical.not_not.1 e7
  subst e7
  by_cases e8 : ¬ value = value2
  · have g : (value.toList == value2.toList) = false := by simpa using (fun h => e8 (toList_inj h))
    have HE := Lib.hid e8
    clear e8 HA2 HB2 HA HB hla hlb
    go_enter Tryz.func79, Tryz.ntmps79
    go_wp2
    all_goals
      go_ret
      exact ⟨⟨false, rfl, no_iff fun h => HE.out (congrArg (fun a => a.op.value) h)⟩, hbel⟩
  replace e8 := Classical.not_not.1 e8
  subst e8
  by_cases e9 : ¬ level = level2
  · have g : (level == level2) = false := by simpa using e9
    have HE := Lib.hid e9
    clear e9 HA2 HB2 HA HB hla hlb
    go_enter Tryz.func79, Tryz.ntmps79
    go_wp2
    all_goals
      go_ret
      exact ⟨⟨false, rfl, no_iff fun h => HE.out (congrArg (fun a => a.op.level) h)⟩, hbel⟩
  replace e9 := Classical.not_not.1 e9
  subst e9
  by_cases e10 : ¬ lsn = lsn2
  · have g : ((lsn : Int) == (lsn2 : Int)) = false := beq_eq_false_iff_ne.2 (by omega)
    have HE := Lib.hid e10
    clear e10 HA2 HB2 HA HB hla hlb
    go_enter Tryz.func79, Tryz.ntmps79
    go_wp2
    all_goals
      go_ret
      exact ⟨⟨false, rfl, no_iff fun h => HE.out (congrArg (fun a => a.op.lsn) h)⟩, hbel⟩
  replace e10 := Classical.not_not.1 e10
  subst e10
  have hcall : ∀ W, Below w.heap.size w W → PkAt W pa picks → PkAt W pb picks2 → Calls Tryz.prog 80 #[.slice pa picks.length ca, .slice pb picks2.length cb] W fun e w' => (∃ b : Bool, e = .returned (.bool b) ∧ (b = true ↔ picks = picks2)) ∧ Below W.heap.size W w' := fun W _ h1 h2 => equal_any picks picks2 pa pb ca cb W hla hlb h1 h2
  have HC := Lib.hid hcall
  clear hcall
  go_enter Tryz.func79, Tryz.ntmps79
  go_wp2_with (go_at_call 80; refine (HC.out _ hbel HA2.out HB2.out).mono ?_; rintro e w1 ⟨⟨b, rfl, hbb⟩, hb1⟩)
  go_ret
  refine ⟨⟨b, rfl, (fun h => by rw [hbb.1 h]), (fun h => hbb.2 (congrArg Ar.picks h))⟩, hbel.trans (hb1.mono hbel.size)⟩
end Go.Proofs.YtgplaeopcejmoaaGreatDoor
