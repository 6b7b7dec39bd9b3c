/- The law ScriptDeeds, walked. -/
import Derived.Test.YtgplaeopcejmoaaGreatDoorKnown
import Derived.Test.YtgplaeopcejmoaaGreatDoorRacttext
import Derived.Test.YtgplaeopcejmoaaGreatDoorOpens
import Derived.Deep.RegionHeld3
namespace Go.Proofs.YtgplaeopcejmoaaGreatDoor
open Go.RowKit Go.Shelf

theorem flat_le {α : Type} (f : α → Bs) (K : Nat) (h : ∀ x, (f x).length ≤ K) : ∀ l : List α, ((l.map f).flatten).length ≤ l.length * K
  | [] => by simp
  | x :: l => by
    have ih := flat_le f K h l
    have hx := h x
    rw [List.map_cons, List.flatten_cons, List.length_append, List.length_cons, Nat.succ_mul]; omega
theorem flat_le_mem {α : Type} (f : α → Bs) (K : Nat) : ∀ l : List α, (∀ x ∈ l, (f x).length ≤ K) → ((l.map f).flatten).length ≤ l.length * K
  | [], _ => by simp
  | x :: l, h => by
    have ih := flat_le_mem f K l (fun y hy => h y (by simp [hy]))
    have hx := h x (by simp)
    rw [List.map_cons, List.flatten_cons, List.length_append, List.length_cons, Nat.succ_mul]; omega
theorem sp_len (x : ByteArray) : (sp x).length = x.size + 1 := by
  unfold sp
  rw [List.length_cons, bs_length]
theorem letA_len {a : Ar} (ok : ActOk a) (hs : smallA a) (c : UInt8) : (letA a c).length ≤ 50000 := by
  have h1 := ito_size ok.node.1 ok.node.2; have h2 := ito_size ok.source.1 ok.source.2; have h3 := ito_size ok.n.1 ok.n.2
  have h4 := opText_small ok.op hs.1 hs.2.1 hs.2.2.1
  have h5 : (itosB a.picks).length ≤ a.picks.length * 22 := flat_le_mem _ 22 _ fun x hx => by
    have := ito_size (ok.picks x hx).1 (ok.picks x hx).2
    rw [sp_len]; omega
  have h6 := hs.2.2.2
  unfold letA
  split
  · rw [sp_len]; omega
  · split
    · rw [sp_len]; omega
    · split
      · rw [sp_len]; omega
      · split
        · rw [sp_len]; omega
        · omega
theorem actText_small {a : Ar} (ok : ActOk a) (hs : smallA a) (h : mayAct a = true) : (actText a).size ≤ 200000 := by
  obtain ⟨m, hm, _⟩ := mayAct_mask h
  obtain ⟨h1, h2⟩ := getI_act hm
  obtain ⟨x, hx, _⟩ := actName_nm h1 h2
  rw [← bs_length, partsA_text a x hx, List.length_append, bs_length]
  have e1 := an_size x
  have e2 := flat_le (letA a) 50000 (letA_len ok hs) (bs (rapPt x))
  have e3 := partsA_size x
  rw [bs_length] at e2
  have e4 : (rapPt x).size * 50000 ≤ 3 * 50000 := Nat.mul_le_mul_right _ e3
  omega
theorem cells12 {W : World} {b : Nat} {T : TypeId} {c0 c1 c2 c3 c4 c5 c6 c7 c8 c9 c10 c11 : Value} (h : Blk W b T [c0, c1, c2, c3, c4, c5, c6, c7, c8, c9, c10, c11]) : W.cell? ⟨b, 0, none⟩ = some c0 ∧ W.cell? ⟨b, 1, none⟩ = some c1 ∧ W.cell? ⟨b, 2, none⟩ = some c2 ∧ W.cell? ⟨b, 3, none⟩ = some c3 ∧ W.cell? ⟨b, 4, none⟩ = some c4 ∧ W.cell? ⟨b, 5, none⟩ = some c5 ∧ W.cell? ⟨b, 6, none⟩ = some c6 ∧ W.cell? ⟨b, 7, none⟩ = some c7 ∧ W.cell? ⟨b, 8, none⟩ = some c8 ∧ W.cell? ⟨b, 9, none⟩ = some c9 ∧ W.cell? ⟨b, 10, none⟩ = some c10 ∧ W.cell? ⟨b, 11, none⟩ = some c11 :=
  ⟨h.cell 0, h.cell 1, h.cell 2, h.cell 3, h.cell 4, h.cell 5, h.cell 6, h.cell 7, h.cell 8, h.cell 9, h.cell 10, h.cell 11⟩
theorem PkAt.picks {w : World} {B : Nat} {pa : Option Addr} {l : List Int} (h : PkAt w pa l) (hB : w.heap.size ≤ B) : PicksAt B w pa l := fun hl => by
  obtain ⟨g, o, e, hg, hc⟩ := h hl
  exact ⟨g, o, e, .inl (Nat.lt_of_lt_of_le hg hB), hc⟩
theorem PkAt.form {w : World} {pa : Option Addr} {l : List Int} (h : PkAt w pa l) : l ≠ [] → ∃ g o, pa = some ⟨g, o, none⟩ ∧ g < w.heap.size := fun hl => by
  obtain ⟨g, o, e, hg, _⟩ := h hl
  exact ⟨g, o, e, hg⟩
/-- what the walk is told of an act that may be told -/
structure DeedYes (a : Ar) (t : ByteArray) : Prop where
  act : actTextR a = .tuple #[.string t, .int .i64 0]
  txt : actText a = t
  ofA : actOfT t = some a
  sizeT : t.size ≤ 200000
theorem deedYes {a : Ar} (ok : ActOk a) (hs : smallA a) (hm : mayAct a = true) : ∃ t, DeedYes a t :=
  ⟨actText a, by unfold actTextR; rw [hm]; rfl, rfl, actOfT_text hm ok, actText_small ok hs hm⟩

section
variable (kd node source nn : Int) (k : Int) (m : Nat) (key til value : ByteArray) (level : Int) (lsn : Nat) (picks : List Int) (pa : Option Addr) (pc : Nat)
theorem d_great0 (h : ¬ smallA ⟨kd, node, source, nn, ⟨k, m, key, til, value, level, lsn⟩, picks⟩) (w : World) : Calls Tryz.prog 16 #[.agg #[.int .i64 kd, .int .i64 node, .int .i64 source, .int .i64 nn, .int .i64 k, .int .u64 (m : Int), .string key, .string til, .string value, .int .i64 level, .int .u64 (lsn : Int), .slice pa picks.length pc]] w fun e w' => e = .returned (.bool true) ∧ Below w.heap.size w w' := great_yes ⟨kd, node, source, nn, ⟨k, m, key, til, value, level, lsn⟩, picks⟩ h pa pc w
theorem d_great1 (h : smallA ⟨kd, node, source, nn, ⟨k, m, key, til, value, level, lsn⟩, picks⟩) (w : World) : Calls Tryz.prog 16 #[.agg #[.int .i64 kd, .int .i64 node, .int .i64 source, .int .i64 nn, .int .i64 k, .int .u64 (m : Int), .string key, .string til, .string value, .int .i64 level, .int .u64 (lsn : Int), .slice pa picks.length pc]] w fun e w' => e = .returned (.bool false) ∧ Below w.heap.size w w' := great_no ⟨kd, node, source, nn, ⟨k, m, key, til, value, level, lsn⟩, picks⟩ h pa pc w
theorem d_act (ok : ActOk ⟨kd, node, source, nn, ⟨k, m, key, til, value, level, lsn⟩, picks⟩) (t : ByteArray) (x : Int) (h : actTextR ⟨kd, node, source, nn, ⟨k, m, key, til, value, level, lsn⟩, picks⟩ = .tuple #[.string t, .int .i64 x]) (w : World) (henv : Env w) (hP : PkAt w pa picks) : Calls Tryz.prog 18 #[.agg #[.int .i64 kd, .int .i64 node, .int .i64 source, .int .i64 nn, .int .i64 k, .int .u64 (m : Int), .string key, .string til, .string value, .int .i64 level, .int .u64 (lsn : Int), .slice pa picks.length pc]] w fun e w' => e = .returned (.tuple #[.string t, .int .i64 x]) ∧ Below w.heap.size w w' :=
  (acttext_any ⟨kd, node, source, nn, ⟨k, m, key, til, value, level, lsn⟩, picks⟩ ok pa pc w (hP.picks (Nat.le_refl _)) hP.form henv).mono fun _ _ ⟨he, hb⟩ => ⟨by rw [he, h], hb⟩
theorem d_may (b : Bool) (h : mayAct ⟨kd, node, source, nn, ⟨k, m, key, til, value, level, lsn⟩, picks⟩ = b) (w : World) : Calls Tryz.prog 27 #[.agg #[.int .i64 kd, .int .i64 node, .int .i64 source, .int .i64 nn, .int .i64 k, .int .u64 (m : Int), .string key, .string til, .string value, .int .i64 level, .int .u64 (lsn : Int), .slice pa picks.length pc]] w fun e w' => e = .returned (.bool b) ∧ Below w.heap.size w w' :=
  (mayact_any kd node source nn k m key til value level lsn picks pa pc w).mono fun _ _ ⟨he, hb⟩ => ⟨by rw [he, h], hb⟩
theorem d_rmay (b : Bool) (h : mayAct ⟨kd, node, source, nn, ⟨k, m, key, til, value, level, lsn⟩, picks⟩ = b) (w : World) : Calls Tryz.prog 28 #[.agg #[.int .i64 kd, .int .i64 node, .int .i64 source, .int .i64 nn, .int .i64 k, .int .u64 (m : Int), .string key, .string til, .string value, .int .i64 level, .int .u64 (lsn : Int), .slice pa picks.length pc]] w fun e w' => e = .returned (.bool b) ∧ Below w.heap.size w w' :=
  (refmaya_any ⟨kd, node, source, nn, ⟨k, m, key, til, value, level, lsn⟩, picks⟩ pa pc w).mono fun _ _ ⟨he, hb⟩ => ⟨by rw [he, h], hb⟩
theorem d_aof (t : ByteArray) (ht : t.size ≤ 1000000) (h : actOfT t = some ⟨kd, node, source, nn, ⟨k, m, key, til, value, level, lsn⟩, picks⟩) (w : World) (henv : Env w) : Calls Tryz.prog 25 #[.string t] w fun e w' => (∃ pa2 pc2, e = .returned (.tuple #[.agg #[.int .i64 kd, .int .i64 node, .int .i64 source, .int .i64 nn, .int .i64 k, .int .u64 (m : Int), .string key, .string til, .string value, .int .i64 level, .int .u64 (lsn : Int), .slice pa2 picks.length pc2], .int .i64 0]) ∧ PkAt w' pa2 picks) ∧ Below w.heap.size w w' :=
  (actofT_any t ht w henv).mono fun _ w' ⟨he, hb⟩ => ⟨by
    rw [h] at he
    obtain ⟨pa2, pc2, he, hp⟩ := he
    refine ⟨pa2, pc2, he, fun hl => ?_⟩
    obtain ⟨g, e, _, hc⟩ := hp hl
    refine ⟨g, 0, e, ?_, fun j x hx => by rw [Nat.zero_add]; exact hc j x hx⟩
    cases hpk : picks with
    | nil => exact absurd hpk hl
    | cons y r => exact cell_lt (hc 0 y (by simp [hpk])), hb⟩
theorem d_rtext (ok : ActOk ⟨kd, node, source, nn, ⟨k, m, key, til, value, level, lsn⟩, picks⟩) (hs : smallA ⟨kd, node, source, nn, ⟨k, m, key, til, value, level, lsn⟩, picks⟩) (t : ByteArray) (hm : mayAct ⟨kd, node, source, nn, ⟨k, m, key, til, value, level, lsn⟩, picks⟩ = true) (h : actText ⟨kd, node, source, nn, ⟨k, m, key, til, value, level, lsn⟩, picks⟩ = t) (w : World) (henv : Env w) (hP : PkAt w pa picks) : Calls Tryz.prog 29 #[.agg #[.int .i64 kd, .int .i64 node, .int .i64 source, .int .i64 nn, .int .i64 k, .int .u64 (m : Int), .string key, .string til, .string value, .int .i64 level, .int .u64 (lsn : Int), .slice pa picks.length pc]] w fun e w' => e = .returned (.string t) ∧ Below w.heap.size w w' := by
  obtain ⟨mm, hk, hw⟩ := mayAct_mask hm
  obtain ⟨h1, h2⟩ := getI_act hk
  obtain ⟨x, hx, _⟩ := actName_nm h1 h2
  refine (refacttext_in x ⟨kd, node, source, nn, ⟨k, m, key, til, value, level, lsn⟩, picks⟩ hx ok hs (fun h0 => ?_) pa pc w henv hP).mono fun _ _ ⟨he, hb⟩ => ⟨by rw [he, h], hb⟩
  refine (mayA_parts hw).2.2.2.2.2.2 ?_
  simp only at hx
  rw [h0] at hx
  have hk' : getI ofActL kd = some mm := hk
  rw [hx] at hk'
  have : mm = 9 := by
    have e : getI ofActL (1 + ((0 : Nat) : Int)) = some 9 := rfl
    rw [e] at hk'
    exact (Option.some.inj hk').symm
  rw [this]; exact ha9_8
theorem d_same (hl : picks.length ≤ 1000000) (pa2 : Option Addr) (pc2 : Nat) (w : World) (h1 : PkAt w pa2 picks) (h2 : PkAt w pa picks) : Calls Tryz.prog 26 #[.agg #[.int .i64 kd, .int .i64 node, .int .i64 source, .int .i64 nn, .int .i64 k, .int .u64 (m : Int), .string key, .string til, .string value, .int .i64 level, .int .u64 (lsn : Int), .slice pa2 picks.length pc2], .agg #[.int .i64 kd, .int .i64 node, .int .i64 source, .int .i64 nn, .int .i64 k, .int .u64 (m : Int), .string key, .string til, .string value, .int .i64 level, .int .u64 (lsn : Int), .slice pa picks.length pc]] w fun e w' => e = .returned (.bool true) ∧ Below w.heap.size w w' :=
  refsame_eq ⟨kd, node, source, nn, ⟨k, m, key, til, value, level, lsn⟩, picks⟩ pa2 pa pc2 pc w hl h1 h2
end

set_option maxRecDepth 100000 in
set_option maxHeartbeats 8000000 in
theorem lawDeed_big (kd node source nn : Int) (k : Int) (m : Nat) (key til value : ByteArray) (level : Int) (lsn : Nat) (picks : List Int) (pa : Option Addr) (pc : Nat) (hs : ¬ smallA ⟨kd, node, source, nn, ⟨k, m, key, til, value, level, lsn⟩, picks⟩) (w : World) (henv : Env w) : Calls Tryz.prog 5 #[.agg #[.int .i64 kd, .int .i64 node, .int .i64 source, .int .i64 nn, .int .i64 k, .int .u64 (m : Int), .string key, .string til, .string value, .int .i64 level, .int .u64 (lsn : Int), .slice pa picks.length pc]] w fun e w' => e = .returned (.bool true) ∧ Below w.heap.size w w' := by
  have HB := (Below.refl w.heap.size w).alloc (Nat.le_refl _) (.cells #[.int .i64 kd, .int .i64 node, .int .i64 source, .int .i64 nn, .int .i64 k, .int .u64 (m : Int), .string key, .string til, .string value, .int .i64 level, .int .u64 (lsn : Int), .slice pa picks.length pc] 39)
  have HS := Lib.hid hs
  clear hs
  go_enter Tryz.func5, Tryz.ntmps5
  go_wp2_with (first
    | (go_at_call 16; (with_reducible refine (d_great0 kd node source nn k m key til value level lsn picks pa pc HS.out _).mono ?_); rintro e w1 ⟨rfl, hb⟩; replace HB := HB.trans (hb.mono HB.size))
    | (go_at_call 11; refine (known_any _ (henv.below HB)).mono ?_; rintro e w2 ⟨rfl, hb⟩; replace HB := HB.trans (hb.mono HB.size)))
  go_ret
  exact ⟨rfl, HB⟩

set_option maxRecDepth 100000 in
set_option maxHeartbeats 8000000 in
theorem lawDeed_no (kd node source nn : Int) (k : Int) (m : Nat) (key til value : ByteArray) (level : Int) (lsn : Nat) (picks : List Int) (pa : Option Addr) (pc : Nat) (ok : ActOk ⟨kd, node, source, nn, ⟨k, m, key, til, value, level, lsn⟩, picks⟩) (hs : smallA ⟨kd, node, source, nn, ⟨k, m, key, til, value, level, lsn⟩, picks⟩) (hm : mayAct ⟨kd, node, source, nn, ⟨k, m, key, til, value, level, lsn⟩, picks⟩ = false) (w : World) (henv : Env w) (hP : PkAt w pa picks) : Calls Tryz.prog 5 #[.agg #[.int .i64 kd, .int .i64 node, .int .i64 source, .int .i64 nn, .int .i64 k, .int .u64 (m : Int), .string key, .string til, .string value, .int .i64 level, .int .u64 (lsn : Int), .slice pa picks.length pc]] w fun e w' => e = .returned (.bool true) ∧ Below w.heap.size w w' := by
  have HB := (Below.refl w.heap.size w).alloc (Nat.le_refl _) (.cells #[.int .i64 kd, .int .i64 node, .int .i64 source, .int .i64 nn, .int .i64 k, .int .u64 (m : Int), .string key, .string til, .string value, .int .i64 level, .int .u64 (lsn : Int), .slice pa picks.length pc] 39)
  have HX := Blk.new w 39 [.int .i64 kd, .int .i64 node, .int .i64 source, .int .i64 nn, .int .i64 k, .int .u64 (m : Int), .string key, .string til, .string value, .int .i64 level, .int .u64 (lsn : Int), .slice pa picks.length pc]
  have t1 : actTextR ⟨kd, node, source, nn, ⟨k, m, key, til, value, level, lsn⟩, picks⟩ = .tuple #[.string ⟨#[]⟩, .int .i64 2] := by unfold actTextR; rw [hm]; rfl
  have H1 := Lib.hid t1; have HM := Lib.hid hm; have HS := Lib.hid hs; have HA := Lib.hid ok; have HP := Lib.hid hP
  clear t1 hm hs ok hP
  go_enter Tryz.func5, Tryz.ntmps5
  go_wp2_with (first
    | (go_at_call 16; (with_reducible refine (d_great1 kd node source nn k m key til value level lsn picks pa pc HS.out _).mono ?_); rintro e w1 ⟨rfl, hb⟩; replace HX := HX.below hb HX.lt; replace HB := HB.trans (hb.mono HB.size); clear hb; obtain ⟨f0, f1, f2, f3, f4, f5, f6, f7, f8, f9, f10, f11⟩ := cells12 HX)
    | (go_at_call 18; (with_reducible refine (d_act kd node source nn k m key til value level lsn picks pa pc HA.out _ _ H1.out _ (henv.below HB) (HP.out.below HB)).mono ?_); rintro e w3 ⟨rfl, hb⟩; replace HX := HX.below hb HX.lt; replace HB := HB.trans (hb.mono HB.size); clear hb f0 f1 f2 f3 f4 f5 f6 f7 f8 f9 f10 f11; obtain ⟨f0, f1, f2, f3, f4, f5, f6, f7, f8, f9, f10, f11⟩ := cells12 HX))
  go_cut [19] (fun d wx => d = .bool false ∧ Below w.heap.size w wx ∧ Blk wx w.heap.size 39 [.int .i64 kd, .int .i64 node, .int .i64 source, .int .i64 nn, .int .i64 k, .int .u64 (m : Int), .string key, .string til, .string value, .int .i64 level, .int .u64 (lsn : Int), .slice pa picks.length pc])
  case first =>
    go_region_held3 (fun W => W.cell? ⟨w.heap.size, 0, none⟩ = some (.int .i64 kd) ∧ W.cell? ⟨w.heap.size, 1, none⟩ = some (.int .i64 node) ∧ W.cell? ⟨w.heap.size, 2, none⟩ = some (.int .i64 source) ∧ W.cell? ⟨w.heap.size, 3, none⟩ = some (.int .i64 nn) ∧ W.cell? ⟨w.heap.size, 4, none⟩ = some (.int .i64 k) ∧ W.cell? ⟨w.heap.size, 5, none⟩ = some (.int .u64 (m : Int)) ∧ W.cell? ⟨w.heap.size, 6, none⟩ = some (.string key) ∧ W.cell? ⟨w.heap.size, 7, none⟩ = some (.string til) ∧ W.cell? ⟨w.heap.size, 8, none⟩ = some (.string value) ∧ W.cell? ⟨w.heap.size, 9, none⟩ = some (.int .i64 level) ∧ W.cell? ⟨w.heap.size, 10, none⟩ = some (.int .u64 (lsn : Int)) ∧ W.cell? ⟨w.heap.size, 11, none⟩ = some (.slice pa picks.length pc)) (go_keep) (first
      | (go_at_call 27; (with_reducible refine (d_may kd node source nn k m key til value level lsn picks pa pc _ HM.out _).mono ?_); rintro e w4 ⟨rfl, hb4⟩; (try replace hb4 := below_undrew hb4); have HX4 : Blk w4 w.heap.size 39 [.int .i64 kd, .int .i64 node, .int .i64 source, .int .i64 nn, .int .i64 k, .int .u64 (m : Int), .string key, .string til, .string value, .int .i64 level, .int .u64 (lsn : Int), .slice pa picks.length pc] := (by first | exact HX5.below hb4 HX5.lt | exact HX.below hb4 HX.lt); have HB4 : Below w.heap.size w w4 := (by first | exact HB5.trans (hb4.mono HB5.size) | exact HB.trans (hb4.mono HB.size)); obtain ⟨g0, g1, g2, g3, g4, g5, g6, g7, g8, g9, g10, g11⟩ := cells12 HX4)
      | (go_at_call 28; (with_reducible refine (d_rmay kd node source nn k m key til value level lsn picks pa pc _ HM.out _).mono ?_); rintro e w5 ⟨rfl, hb5⟩; (try replace hb5 := below_undrew hb5); have HX5 : Blk w5 w.heap.size 39 [.int .i64 kd, .int .i64 node, .int .i64 source, .int .i64 nn, .int .i64 k, .int .u64 (m : Int), .string key, .string til, .string value, .int .i64 level, .int .u64 (lsn : Int), .slice pa picks.length pc] := (by first | exact HX4.below hb5 HX4.lt | exact HX.below hb5 HX.lt); have HB5 : Below w.heap.size w w5 := (by first | exact HB4.trans (hb5.mono HB4.size) | exact HB.trans (hb5.mono HB.size)); obtain ⟨g0, g1, g2, g3, g4, g5, g6, g7, g8, g9, g10, g11⟩ := cells12 HX5))
    all_goals
      go_wp2_with fail
      go_meet
      first
      | exact ⟨rfl, HB5, HX5⟩
      | exact ⟨rfl, HB4, HX4⟩
  case rest =>
    clear HB HX f0 f1 f2 f3 f4 f5 f6 f7 f8 f9 f10 f11
    obtain ⟨rfl, HB, HX⟩ := hcut
    obtain ⟨f0, f1, f2, f3, f4, f5, f6, f7, f8, f9, f10, f11⟩ := cells12 HX
    go_wp2_with (first
      | (go_at_call 28; (with_reducible refine (d_rmay kd node source nn k m key til value level lsn picks pa pc _ HM.out _).mono ?_); rintro e w5 ⟨rfl, hb⟩; replace HX := HX.below hb HX.lt; replace HB := HB.trans (hb.mono HB.size); clear hb f0 f1 f2 f3 f4 f5 f6 f7 f8 f9 f10 f11)
      | (go_at_call 14; refine (num_any _ _).mono ?_; rintro e wq ⟨rfl, rfl⟩)
      | (go_at_call 11; refine (known_any _ (henv.below HB)).mono ?_; rintro e w3 ⟨rfl, hb⟩; replace HB := HB.trans (hb.mono HB.size); clear hb))
    go_ret
    exact ⟨rfl, HB⟩

set_option maxRecDepth 100000 in
set_option maxHeartbeats 8000000 in
theorem lawDeed_yes (kd node source nn : Int) (k : Int) (m : Nat) (key til value : ByteArray) (level : Int) (lsn : Nat) (picks : List Int) (pa : Option Addr) (pc : Nat) (ok : ActOk ⟨kd, node, source, nn, ⟨k, m, key, til, value, level, lsn⟩, picks⟩) (hs : smallA ⟨kd, node, source, nn, ⟨k, m, key, til, value, level, lsn⟩, picks⟩) (hm : mayAct ⟨kd, node, source, nn, ⟨k, m, key, til, value, level, lsn⟩, picks⟩ = true) (t : ByteArray) (hy : DeedYes ⟨kd, node, source, nn, ⟨k, m, key, til, value, level, lsn⟩, picks⟩ t) (w : World) (henv : Env w) (hP : PkAt w pa picks) : Calls Tryz.prog 5 #[.agg #[.int .i64 kd, .int .i64 node, .int .i64 source, .int .i64 nn, .int .i64 k, .int .u64 (m : Int), .string key, .string til, .string value, .int .i64 level, .int .u64 (lsn : Int), .slice pa picks.length pc]] w fun e w' => e = .returned (.bool true) ∧ Below w.heap.size w w' := by
  have HB := (Below.refl w.heap.size w).alloc (Nat.le_refl _) (.cells #[.int .i64 kd, .int .i64 node, .int .i64 source, .int .i64 nn, .int .i64 k, .int .u64 (m : Int), .string key, .string til, .string value, .int .i64 level, .int .u64 (lsn : Int), .slice pa picks.length pc] 39)
  have HX := Blk.new w 39 [.int .i64 kd, .int .i64 node, .int .i64 source, .int .i64 nn, .int .i64 k, .int .u64 (m : Int), .string key, .string til, .string value, .int .i64 level, .int .u64 (lsn : Int), .slice pa picks.length pc]
  have zt := hy.sizeT
  have zl : picks.length ≤ 1000000 := by have := hs.2.2.2; simp only at this; omega
  have HM := Lib.hid hm; have HS := Lib.hid hs; have HA := Lib.hid ok; have HY := Lib.hid hy; have HP := Lib.hid hP
  clear hm hs ok hy hP
  go_enter Tryz.func5, Tryz.ntmps5
  go_wp2_with (first
    | (go_at_call 16; (with_reducible refine (d_great1 kd node source nn k m key til value level lsn picks pa pc HS.out _).mono ?_); rintro e w1 ⟨rfl, hb⟩; replace HX := HX.below hb HX.lt; replace HB := HB.trans (hb.mono HB.size); clear hb; obtain ⟨f0, f1, f2, f3, f4, f5, f6, f7, f8, f9, f10, f11⟩ := cells12 HX)
    | (go_at_call 18; (with_reducible refine (d_act kd node source nn k m key til value level lsn picks pa pc HA.out _ _ HY.out.act _ (henv.below HB) (HP.out.below HB)).mono ?_); rintro e w3 ⟨rfl, hb⟩; replace HX := HX.below hb HX.lt; replace HB := HB.trans (hb.mono HB.size); clear hb f0 f1 f2 f3 f4 f5 f6 f7 f8 f9 f10 f11; obtain ⟨f0, f1, f2, f3, f4, f5, f6, f7, f8, f9, f10, f11⟩ := cells12 HX))
  go_cut [19] (fun d wx => d = .bool false ∧ Below w.heap.size w wx ∧ Blk wx w.heap.size 39 [.int .i64 kd, .int .i64 node, .int .i64 source, .int .i64 nn, .int .i64 k, .int .u64 (m : Int), .string key, .string til, .string value, .int .i64 level, .int .u64 (lsn : Int), .slice pa picks.length pc])
  case first =>
    go_region_held3 (fun W => W.cell? ⟨w.heap.size, 0, none⟩ = some (.int .i64 kd) ∧ W.cell? ⟨w.heap.size, 1, none⟩ = some (.int .i64 node) ∧ W.cell? ⟨w.heap.size, 2, none⟩ = some (.int .i64 source) ∧ W.cell? ⟨w.heap.size, 3, none⟩ = some (.int .i64 nn) ∧ W.cell? ⟨w.heap.size, 4, none⟩ = some (.int .i64 k) ∧ W.cell? ⟨w.heap.size, 5, none⟩ = some (.int .u64 (m : Int)) ∧ W.cell? ⟨w.heap.size, 6, none⟩ = some (.string key) ∧ W.cell? ⟨w.heap.size, 7, none⟩ = some (.string til) ∧ W.cell? ⟨w.heap.size, 8, none⟩ = some (.string value) ∧ W.cell? ⟨w.heap.size, 9, none⟩ = some (.int .i64 level) ∧ W.cell? ⟨w.heap.size, 10, none⟩ = some (.int .u64 (lsn : Int)) ∧ W.cell? ⟨w.heap.size, 11, none⟩ = some (.slice pa picks.length pc)) (go_keep) (first
      | (go_at_call 27; (with_reducible refine (d_may kd node source nn k m key til value level lsn picks pa pc _ HM.out _).mono ?_); rintro e w4 ⟨rfl, hb4⟩; (try replace hb4 := below_undrew hb4); have HX4 : Blk w4 w.heap.size 39 [.int .i64 kd, .int .i64 node, .int .i64 source, .int .i64 nn, .int .i64 k, .int .u64 (m : Int), .string key, .string til, .string value, .int .i64 level, .int .u64 (lsn : Int), .slice pa picks.length pc] := (by first | exact HX5.below hb4 HX5.lt | exact HX.below hb4 HX.lt); have HB4 : Below w.heap.size w w4 := (by first | exact HB5.trans (hb4.mono HB5.size) | exact HB.trans (hb4.mono HB.size)); obtain ⟨g0, g1, g2, g3, g4, g5, g6, g7, g8, g9, g10, g11⟩ := cells12 HX4)
      | (go_at_call 28; (with_reducible refine (d_rmay kd node source nn k m key til value level lsn picks pa pc _ HM.out _).mono ?_); rintro e w5 ⟨rfl, hb5⟩; (try replace hb5 := below_undrew hb5); have HX5 : Blk w5 w.heap.size 39 [.int .i64 kd, .int .i64 node, .int .i64 source, .int .i64 nn, .int .i64 k, .int .u64 (m : Int), .string key, .string til, .string value, .int .i64 level, .int .u64 (lsn : Int), .slice pa picks.length pc] := (by first | exact HX4.below hb5 HX4.lt | exact HX.below hb5 HX.lt); have HB5 : Below w.heap.size w w5 := (by first | exact HB4.trans (hb5.mono HB4.size) | exact HB.trans (hb5.mono HB.size)); obtain ⟨g0, g1, g2, g3, g4, g5, g6, g7, g8, g9, g10, g11⟩ := cells12 HX5))
    all_goals
      go_wp2_with fail
      go_meet
      first
      | exact ⟨rfl, HB5, HX5⟩
      | exact ⟨rfl, HB4, HX4⟩
  case rest =>
    clear HB HX f0 f1 f2 f3 f4 f5 f6 f7 f8 f9 f10 f11
    obtain ⟨rfl, HB, HX⟩ := hcut
    obtain ⟨f0, f1, f2, f3, f4, f5, f6, f7, f8, f9, f10, f11⟩ := cells12 HX
    go_wp2_with (first
      | (go_at_call 28; (with_reducible refine (d_rmay kd node source nn k m key til value level lsn picks pa pc _ HM.out _).mono ?_); rintro e w5 ⟨rfl, hb⟩; replace HX := HX.below hb HX.lt; replace HB := HB.trans (hb.mono HB.size); clear hb f0 f1 f2 f3 f4 f5 f6 f7 f8 f9 f10 f11)
      | (go_at_call 25; (with_reducible refine (d_aof kd node source nn k m key til value level lsn picks t (by omega) HY.out.ofA _ (henv.below HB)).mono ?_); rintro e w7 ⟨⟨pa2, pc2, rfl, hP2⟩, hb⟩; replace HX := (HX.below hb HX.lt).alloc (.cells #[.int .i64 kd, .int .i64 node, .int .i64 source, .int .i64 nn, .int .i64 k, .int .u64 (m : Int), .string key, .string til, .string value, .int .i64 level, .int .u64 (lsn : Int), .slice pa2 picks.length pc2] 39); replace HB := (HB.trans (hb.mono HB.size)).alloc (HB.trans (hb.mono HB.size)).size (.cells #[.int .i64 kd, .int .i64 node, .int .i64 source, .int .i64 nn, .int .i64 k, .int .u64 (m : Int), .string key, .string til, .string value, .int .i64 level, .int .u64 (lsn : Int), .slice pa2 picks.length pc2] 39); clear hb; have HZ := Blk.new w7 39 [.int .i64 kd, .int .i64 node, .int .i64 source, .int .i64 nn, .int .i64 k, .int .u64 (m : Int), .string key, .string til, .string value, .int .i64 level, .int .u64 (lsn : Int), .slice pa2 picks.length pc2]; have HP2 := Lib.hid (hP2.below ((Below.refl _ w7).alloc (Nat.le_refl _) (.cells #[.int .i64 kd, .int .i64 node, .int .i64 source, .int .i64 nn, .int .i64 k, .int .u64 (m : Int), .string key, .string til, .string value, .int .i64 level, .int .u64 (lsn : Int), .slice pa2 picks.length pc2] 39))); clear hP2; obtain ⟨f0, f1, f2, f3, f4, f5, f6, f7, f8, f9, f10, f11⟩ := cells12 HX)
      | (go_at_call 29; (with_reducible refine (d_rtext kd node source nn k m key til value level lsn picks pa pc HA.out HS.out t HM.out HY.out.txt _ (henv.below HB) (HP.out.below HB)).mono ?_); rintro e w8 ⟨rfl, hb⟩; replace HX := HX.below hb HX.lt; replace HZ := HZ.below hb HZ.lt; replace HB := HB.trans (hb.mono HB.size); replace HP2 := Lib.hid (HP2.out.below hb); clear hb f0 f1 f2 f3 f4 f5 f6 f7 f8 f9 f10 f11; obtain ⟨f0, f1, f2, f3, f4, f5, f6, f7, f8, f9, f10, f11⟩ := cells12 HX; obtain ⟨g0, g1, g2, g3, g4, g5, g6, g7, g8, g9, g10, g11⟩ := cells12 HZ)
      | (go_at_call 14; refine (num_any _ _).mono ?_; rintro e wq ⟨rfl, rfl⟩)
      | (go_at_call 26; (with_reducible refine (d_same kd node source nn k m key til value level lsn picks pa pc zl pa2 pc2 _ HP2.out (HP.out.below HB)).mono ?_); rintro e w12 ⟨rfl, hb⟩; replace HB := HB.trans (hb.mono HB.size); clear hb)
      | (go_at_call 11; refine (known_any _ (henv.below HB)).mono ?_; rintro e w13 ⟨rfl, hb⟩; replace HB := HB.trans (hb.mono HB.size); clear hb))
    go_ret
    exact ⟨rfl, HB⟩

theorem lawDeeds (a : Ar) (ok : ActOk a) (pa : Option Addr) (pc : Nat) (w : World) (henv : Env w) (hP : PkAt w pa a.picks) : Calls Tryz.prog 5 #[.agg (actCells a (.slice pa a.picks.length pc)).toArray] w fun e w' => e = .returned (.bool true) ∧ Below w.heap.size w w' := by
  obtain ⟨kd, node, source, nn, ⟨k, m, key, til, value, level, lsn⟩, picks⟩ := a
  by_cases hs : smallA ⟨kd, node, source, nn, ⟨k, m, key, til, value, level, lsn⟩, picks⟩
  · cases hm : mayAct ⟨kd, node, source, nn, ⟨k, m, key, til, value, level, lsn⟩, picks⟩ with
    | false => exact lawDeed_no kd node source nn k m key til value level lsn picks pa pc ok hs hm w henv hP
    | true =>
      obtain ⟨t, hy⟩ := deedYes ok hs hm
      exact lawDeed_yes kd node source nn k m key til value level lsn picks pa pc ok hs hm t hy w henv hP
  · exact lawDeed_big kd node source nn k m key til value level lsn picks pa pc hs w henv
theorem lawDeedsC (w : World) (v : Value) (z : ArgAct w v) (henv : Env w) : Calls Tryz.prog 5 #[v] w fun e w' => e = .returned (.bool true) ∧ Below w.heap.size w w' := by
  obtain ⟨a, pa, pc, rfl, ok, hP⟩ := z
  exact lawDeeds a ok pa pc w henv hP
end Go.Proofs.YtgplaeopcejmoaaGreatDoor
