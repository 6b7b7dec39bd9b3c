/- The law ScriptAnswers, walked. -/
import Derived.Test.YtgplaeopcejmoaaDoorKnown
import Derived.Test.YtgplaeopcejmoaaDoorRtold
namespace Go.Proofs.YtgplaeopcejmoaaDoor
open Go.RowKit Go.Shelf

theorem cells9 {W : World} {b : Nat} {T : TypeId} {c0 c1 c2 c3 c4 c5 c6 c7 c8 : Value} (h : Blk W b T [c0, c1, c2, c3, c4, c5, c6, c7, c8]) : W.cell? ⟨b, 0, none⟩ = some c0 ∧ W.cell? ⟨b, 1, none⟩ = some c1 ∧ W.cell? ⟨b, 2, none⟩ = some c2 ∧ W.cell? ⟨b, 3, none⟩ = some c3 ∧ W.cell? ⟨b, 4, none⟩ = some c4 ∧ W.cell? ⟨b, 5, none⟩ = some c5 ∧ W.cell? ⟨b, 6, none⟩ = some c6 ∧ W.cell? ⟨b, 7, none⟩ = some c7 ∧ W.cell? ⟨b, 8, none⟩ = some c8 :=
  ⟨h.cell 0, h.cell 1, h.cell 2, h.cell 3, h.cell 4, h.cell 5, h.cell 6, h.cell 7, h.cell 8⟩
section
variable (code : Int) (n : Nat) (level : Int) (lsn pos tl : Nat) (value : ByteArray) (yes : Bool) (A : Option Addr) (cp : Nat) (ps : List (ByteArray × ByteArray))
theorem a_told (k : Int) (t : ByteArray) (ht : toldT k ⟨code, n, level, lsn, pos, tl, value, yes⟩ ps = t) (w : World) (henv : Env w) (h : AnArg w ⟨code, n, level, lsn, pos, tl, value, yes⟩ A ps) : Calls Tryd.prog 11 #[.int .i64 k, .agg #[.int .i64 code, .int .u64 (n : Int), .int .i64 level, .int .u64 (lsn : Int), .int .u64 (pos : Int), .int .u64 (tl : Int), .string value, .bool yes, .slice A ps.length cp]] w fun e w' => e = .returned (.string t) ∧ Below w.heap.size w w' :=
  (told_any k ⟨code, n, level, lsn, pos, tl, value, yes⟩ A cp ps w henv h).mono fun _ _ ⟨he, hb⟩ => ⟨by rw [he, ht], hb⟩
theorem a_rtold (k : Int) (t : ByteArray) (ht : toldT k ⟨code, n, level, lsn, pos, tl, value, yes⟩ ps = t) (w : World) (henv : Env w) (h : AnArg w ⟨code, n, level, lsn, pos, tl, value, yes⟩ A ps) : Calls Tryd.prog 12 #[.int .i64 k, .agg #[.int .i64 code, .int .u64 (n : Int), .int .i64 level, .int .u64 (lsn : Int), .int .u64 (pos : Int), .int .u64 (tl : Int), .string value, .bool yes, .slice A ps.length cp]] w fun e w' => e = .returned (.string t) ∧ Below w.heap.size w w' :=
  (rtold_any k ⟨code, n, level, lsn, pos, tl, value, yes⟩ A cp ps w henv h).mono fun _ _ ⟨he, hb⟩ => ⟨by rw [he, ht], hb⟩
end
theorem small_next {ps : List (ByteArray × ByteArray)} {j : Nat} {p : ByteArray × ByteArray} (h : ps[j]? = some p) (ha : ∀ q ∈ ps.take j, q.1.size ≤ 2000 ∧ q.2.size ≤ 2000) (hp : p.1.size ≤ 2000 ∧ p.2.size ≤ 2000) : ∀ q ∈ ps.take (j + 1), q.1.size ≤ 2000 ∧ q.2.size ≤ 2000 := by
  obtain ⟨hl, h⟩ := List.getElem?_eq_some_iff.1 h
  intro q hq
  rw [List.take_succ_eq_append_getElem hl, h] at hq
  rcases List.mem_append.1 hq with hq | hq
  · exact ha q hq
  · rw [List.mem_singleton.1 hq]; exact hp

set_option maxRecDepth 100000 in
set_option maxHeartbeats 8000000 in
theorem lawAns (k o : Int) (code : Int) (n : Nat) (level : Int) (lsn pos tl : Nat) (value : ByteArray) (yes : Bool) (A : Option Addr) (cp : Nat) (ps : List (ByteArray × ByteArray)) (ok : AnOk ⟨code, n, level, lsn, pos, tl, value, yes⟩) (w : World) (henv : Env w) (hP : PrAt w A ps) : Calls Tryd.prog 4 #[.int .i64 k, .int .i64 o, .agg #[.int .i64 code, .int .u64 (n : Int), .int .i64 level, .int .u64 (lsn : Int), .int .u64 (pos : Int), .int .u64 (tl : Int), .string value, .bool yes, .slice A ps.length cp]] w fun e w' => e = .returned (.bool true) ∧ Below w.heap.size w w' := by
  have HB := (Below.refl w.heap.size w).alloc (Nat.le_refl _) (.cells #[.int .i64 code, .int .u64 (n : Int), .int .i64 level, .int .u64 (lsn : Int), .int .u64 (pos : Int), .int .u64 (tl : Int), .string value, .bool yes, .slice A ps.length cp] 32)
  have HX := Blk.new w 32 [.int .i64 code, .int .u64 (n : Int), .int .i64 level, .int .u64 (lsn : Int), .int .u64 (pos : Int), .int .u64 (tl : Int), .string value, .bool yes, .slice A ps.length cp]
  obtain ⟨f0, f1, f2, f3, f4, f5, f6, f7, f8⟩ := cells9 HX
  have HOK := Lib.hid ok; have HP := Lib.hid hP
  clear ok hP
  by_cases h1 : 100 < ps.length
  · have g1 : 100 < (ps.length : Int) := by omega
    go_enter Tryd.func4, Tryd.ntmps4
    go_wp2_with (go_at_call 6; refine (known_any _ (henv.below HB)).mono ?_; rintro e w2 ⟨rfl, hb⟩; replace HB := HB.trans (hb.mono HB.size))
    go_ret
    exact ⟨rfl, HB⟩
  · have g1 : ¬ 100 < (ps.length : Int) := by omega
    by_cases h2 : 2000 < value.size
    · have g2 : 2000 < (value.size : Int) := by omega
      go_enter Tryd.func4, Tryd.ntmps4
      go_wp2_with (go_at_call 6; refine (known_any _ (henv.below HB)).mono ?_; rintro e w2 ⟨rfl, hb⟩; replace HB := HB.trans (hb.mono HB.size))
      go_ret
      exact ⟨rfl, HB⟩
    · have g2 : ¬ 2000 < (value.size : Int) := by omega
      go_enter Tryd.func4, Tryd.ntmps4
      go_wp2_with fail
      go_loop [7] (fun i => ∃ j : Nat, j ≤ ps.length ∧ i = .int .i64 j ∧ Hid (∀ q ∈ ps.take j, q.1.size ≤ 2000 ∧ q.2.size ≤ 2000)) (fun i => ps.length - (intOf i).toNat)
      case atStart => exact ⟨0, Nat.zero_le _, rfl, Lib.hid (fun q hq => by simp at hq)⟩
      case round =>
        obtain ⟨j, hj, rfl, HS⟩ := hrel
        by_cases hlt : j < ps.length
        · have hne : ps ≠ [] := fun e => by rw [e] at hlt; simp at hlt
          obtain ⟨⟨x, y⟩, hp⟩ : ∃ p, ps[j]? = some p := ⟨_, List.getElem?_eq_getElem hlt⟩
          obtain ⟨g, o', rfl, hg, hcc⟩ := HP.out hne
          have y1 : (w.alloc (.cells #[.int .i64 code, .int .u64 (n : Int), .int .i64 level, .int .u64 (lsn : Int), .int .u64 (pos : Int), .int .u64 (tl : Int), .string value, .bool yes, .slice (some ⟨g, o', none⟩) ps.length cp] 32)).cell? ⟨g, o' + j * 2, none⟩ = some (.string x) := (HB.cell (p := ⟨g, o' + j * 2, none⟩) hg).trans (hcc j _ hp).1
          have y2 : (w.alloc (.cells #[.int .i64 code, .int .u64 (n : Int), .int .i64 level, .int .u64 (lsn : Int), .int .u64 (pos : Int), .int .u64 (tl : Int), .string value, .bool yes, .slice (some ⟨g, o', none⟩) ps.length cp] 32)).cell? ⟨g, o' + j * 2 + 1, none⟩ = some (.string y) := (HB.cell (p := ⟨g, o' + j * 2 + 1, none⟩) hg).trans (hcc j _ hp).2
          have HPJ := Lib.hid hp
          clear hcc hne hp
          by_cases hx : 2000 < x.size
          · have gx : 2000 < (x.size : Int) := by omega
            go_wp2_with (go_at_call 6; refine (known_any _ (henv.below HB)).mono ?_; rintro e w2 ⟨rfl, hb⟩; replace HB := HB.trans (hb.mono HB.size))
            go_ret
            exact ⟨rfl, HB⟩
          · have gx : ¬ 2000 < (x.size : Int) := by omega
            by_cases hy : 2000 < y.size
            · have gy : 2000 < (y.size : Int) := by omega
              go_wp2_with (go_at_call 6; refine (known_any _ (henv.below HB)).mono ?_; rintro e w2 ⟨rfl, hb⟩; replace HB := HB.trans (hb.mono HB.size))
              go_ret
              exact ⟨rfl, HB⟩
            · have gy : ¬ 2000 < (y.size : Int) := by omega
              go_wp2_with fail
              go_round
              case rel => exact ⟨j + 1, by omega, by go_num, Lib.hid (small_next HPJ.out HS.out ⟨by simp only; omega, by simp only; omega⟩)⟩
              case measure => simp [intOf]; omega
        · obtain rfl : j = ps.length := by omega
          have hsm := HS.out
          rw [List.take_length] at hsm
          have HA : Hid (AnArg w ⟨code, n, level, lsn, pos, tl, value, yes⟩ A ps) := Lib.hid ⟨HOK.out, by omega, hsm, by simp only; omega, HP.out⟩
          clear hsm HS
          obtain ⟨t, ht⟩ : ∃ t, toldT k ⟨code, n, level, lsn, pos, tl, value, yes⟩ ps = t := ⟨_, rfl⟩
          have HT := Lib.hid ht
          cases hcd : (code == 0)
          · have ho : toldT o ⟨code, n, level, lsn, pos, tl, value, yes⟩ ps = t := by
              rw [← ht, toldT_err (by simpa using hcd), toldT_err (by simpa using hcd)]
            have HTO := Lib.hid ho
            clear ht ho
            go_wp2_with (first
              | (go_at_call 11; (with_reducible refine (a_told code n level lsn pos tl value yes A cp ps k t HT.out _ (henv.below HB) (HA.out.below HB)).mono ?_); rintro e w1 ⟨rfl, hb⟩; replace HX := HX.below hb HX.lt; replace HB := HB.trans (hb.mono HB.size); clear hb f0 f1 f2 f3 f4 f5 f6 f7 f8; obtain ⟨f0, f1, f2, f3, f4, f5, f6, f7, f8⟩ := cells9 HX)
              | (go_at_call 12; (with_reducible refine (a_rtold code n level lsn pos tl value yes A cp ps k t HT.out _ (henv.below HB) (HA.out.below HB)).mono ?_); rintro e w2 ⟨rfl, hb⟩; replace HX := HX.below hb HX.lt; replace HB := HB.trans (hb.mono HB.size); clear hb f0 f1 f2 f3 f4 f5 f6 f7 f8; obtain ⟨f0, f1, f2, f3, f4, f5, f6, f7, f8⟩ := cells9 HX)
              | (go_at_call 11; (with_reducible refine (a_told code n level lsn pos tl value yes A cp ps o t HTO.out _ (henv.below HB) (HA.out.below HB)).mono ?_); rintro e w3 ⟨rfl, hb⟩; replace HX := HX.below hb HX.lt; replace HB := HB.trans (hb.mono HB.size); clear hb f0 f1 f2 f3 f4 f5 f6 f7 f8)
              | (go_at_call 10; refine (num_any _ _).mono ?_; rintro e wq ⟨rfl, rfl⟩)
              | (go_at_call 6; refine (known_any _ (henv.below HB)).mono ?_; rintro e w4 ⟨rfl, hb⟩; replace HB := HB.trans (hb.mono HB.size)))
            go_ret
            exact ⟨rfl, HB⟩
          · clear ht
            go_wp2_with (first
              | (go_at_call 11; (with_reducible refine (a_told code n level lsn pos tl value yes A cp ps k t HT.out _ (henv.below HB) (HA.out.below HB)).mono ?_); rintro e w1 ⟨rfl, hb⟩; replace HX := HX.below hb HX.lt; replace HB := HB.trans (hb.mono HB.size); clear hb f0 f1 f2 f3 f4 f5 f6 f7 f8; obtain ⟨f0, f1, f2, f3, f4, f5, f6, f7, f8⟩ := cells9 HX)
              | (go_at_call 12; (with_reducible refine (a_rtold code n level lsn pos tl value yes A cp ps k t HT.out _ (henv.below HB) (HA.out.below HB)).mono ?_); rintro e w2 ⟨rfl, hb⟩; replace HX := HX.below hb HX.lt; replace HB := HB.trans (hb.mono HB.size); clear hb f0 f1 f2 f3 f4 f5 f6 f7 f8; obtain ⟨f0, f1, f2, f3, f4, f5, f6, f7, f8⟩ := cells9 HX)
              | (go_at_call 10; refine (num_any _ _).mono ?_; rintro e wq ⟨rfl, rfl⟩)
              | (go_at_call 6; refine (known_any _ (henv.below HB)).mono ?_; rintro e w4 ⟨rfl, hb⟩; replace HB := HB.trans (hb.mono HB.size)))
            go_ret
            exact ⟨rfl, HB⟩
end Go.Proofs.YtgplaeopcejmoaaDoor
