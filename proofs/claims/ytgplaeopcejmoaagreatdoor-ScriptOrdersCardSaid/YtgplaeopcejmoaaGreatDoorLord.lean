/- The law ScriptOrders, walked. -/
import Derived.Test.YtgplaeopcejmoaaGreatDoorOrd
import Derived.Deep.RegionHeld3
namespace Go.Proofs.YtgplaeopcejmoaaGreatDoor
open Go.RowKit Go.Shelf

theorem ord_no {o : Opr} {node : Int} (h : mayOp o = false) : opTextR o = .tuple #[.string ⟨#[]⟩, .int .i64 2] ∧ actTextR ⟨1, node, 0, 0, o, []⟩ = .tuple #[.string ⟨#[]⟩, .int .i64 2] := by
  unfold opTextR actTextR
  rw [mayAct_op, h]
  exact ⟨rfl, rfl⟩
theorem ord_yes {o : Opr} {node : Int} (h : mayOp o = true) : opTextR o = .tuple #[.string (opText o), .int .i64 0] ∧ actTextR ⟨1, node, 0, 0, o, []⟩ = .tuple #[.string (actText ⟨1, node, 0, 0, o, []⟩), .int .i64 0] := by
  unfold opTextR actTextR
  rw [mayAct_op, h]
  exact ⟨rfl, rfl⟩
theorem cells7 {W : World} {b : Nat} {T : TypeId} {c0 c1 c2 c3 c4 c5 c6 : Value} (h : Blk W b T [c0, c1, c2, c3, c4, c5, c6]) : W.cell? ⟨b, 0, none⟩ = some c0 ∧ W.cell? ⟨b, 1, none⟩ = some c1 ∧ W.cell? ⟨b, 2, none⟩ = some c2 ∧ W.cell? ⟨b, 3, none⟩ = some c3 ∧ W.cell? ⟨b, 4, none⟩ = some c4 ∧ W.cell? ⟨b, 5, none⟩ = some c5 ∧ W.cell? ⟨b, 6, none⟩ = some c6 :=
  ⟨h.cell 0, h.cell 1, h.cell 2, h.cell 3, h.cell 4, h.cell 5, h.cell 6⟩

set_option maxRecDepth 100000 in
set_option maxHeartbeats 8000000 in
theorem lawOrd_big (k : Int) (n : Nat) (key til value : ByteArray) (level : Int) (lsn : Nat) (node : Int) (hs : ¬ smallA ⟨0, 0, 0, 0, ⟨k, n, key, til, value, level, lsn⟩, []⟩) (w : World) (henv : Env w) : Calls Tryz.prog 4 #[.agg #[.int .i64 k, .int .u64 (n : Int), .string key, .string til, .string value, .int .i64 level, .int .u64 (lsn : Int)], .int .i64 node] w fun e w' => e = .returned (.bool true) ∧ Below w.heap.size w w' := by
  have HB := (Below.refl w.heap.size w).alloc (Nat.le_refl _) (.cells #[.int .i64 k, .int .u64 (n : Int), .string key, .string til, .string value, .int .i64 level, .int .u64 (lsn : Int)] 34)
  have HX := Blk.new w 34 [.int .i64 k, .int .u64 (n : Int), .string key, .string til, .string value, .int .i64 level, .int .u64 (lsn : Int)]
  have HS := Lib.hid hs
  clear hs
  go_enter Tryz.func4, Tryz.ntmps4
  go_wp2_with (first
    | (go_at_call 16; (with_reducible refine (o_great0 k n key til value level lsn HS.out _).mono ?_); rintro e w1 ⟨rfl, hb⟩; replace HB := HB.trans (hb.mono HB.size))
    | (go_at_call 11; refine (known_any _ (henv.below HB)).mono ?_; rintro e w2 ⟨rfl, hb⟩; replace HB := HB.trans (hb.mono HB.size)))
  go_ret
  exact ⟨rfl, HB⟩

set_option maxRecDepth 100000 in
set_option maxHeartbeats 8000000 in
theorem lawOrd_no (k : Int) (n : Nat) (key til value : ByteArray) (level : Int) (lsn : Nat) (node : Int) (ha : OrdArgs ⟨k, n, key, til, value, level, lsn⟩ node) (hs : smallA ⟨0, 0, 0, 0, ⟨k, n, key, til, value, level, lsn⟩, []⟩) (hm : mayOp ⟨k, n, key, til, value, level, lsn⟩ = false) (w : World) (henv : Env w) : Calls Tryz.prog 4 #[.agg #[.int .i64 k, .int .u64 (n : Int), .string key, .string til, .string value, .int .i64 level, .int .u64 (lsn : Int)], .int .i64 node] w fun e w' => e = .returned (.bool true) ∧ Below w.heap.size w w' := by
  have HB := (Below.refl w.heap.size w).alloc (Nat.le_refl _) (.cells #[.int .i64 k, .int .u64 (n : Int), .string key, .string til, .string value, .int .i64 level, .int .u64 (lsn : Int)] 34)
  have HX := Blk.new w 34 [.int .i64 k, .int .u64 (n : Int), .string key, .string til, .string value, .int .i64 level, .int .u64 (lsn : Int)]
  obtain ⟨t1, t2⟩ := ord_no (node := node) hm
  have H1 := Lib.hid t1; have H2 := Lib.hid t2; have HM := Lib.hid hm; have HS := Lib.hid hs; have HA := Lib.hid ha
  clear t1 t2 hm hs ha
  go_enter Tryz.func4, Tryz.ntmps4
  go_wp2_with (first
    | (go_at_call 16; (with_reducible refine (o_great1 k n key til value level lsn HS.out _).mono ?_); rintro e w1 ⟨rfl, hb⟩; replace HX := HX.below hb HX.lt; replace HB := HB.trans (hb.mono HB.size); clear hb; obtain ⟨f0, f1, f2, f3, f4, f5, f6⟩ := cells7 HX)
    | (go_at_call 17; (with_reducible refine (o_text k n key til value level lsn HA.out.ok _ _ H1.out _ (henv.below HB)).mono ?_); rintro e w2 ⟨rfl, hb⟩; replace HX := HX.below hb HX.lt; replace HB := HB.trans (hb.mono HB.size); clear hb f0 f1 f2 f3 f4 f5 f6; obtain ⟨f0, f1, f2, f3, f4, f5, f6⟩ := cells7 HX)
    | (go_at_call 18; (with_reducible refine (o_act k n key til value level lsn node HA.out.act _ _ H2.out _ (henv.below HB)).mono ?_); rintro e w3 ⟨rfl, hb⟩; replace HX := HX.below hb HX.lt; replace HB := HB.trans (hb.mono HB.size); clear hb f0 f1 f2 f3 f4 f5 f6; obtain ⟨f0, f1, f2, f3, f4, f5, f6⟩ := cells7 HX))
  go_cut [36] (fun d wx => d = .bool false ∧ Below w.heap.size w wx ∧ Blk wx w.heap.size 34 [.int .i64 k, .int .u64 (n : Int), .string key, .string til, .string value, .int .i64 level, .int .u64 (lsn : Int)])
  case first =>
    go_region_held3 (fun W => W.cell? ⟨w.heap.size, 0, none⟩ = some (.int .i64 k) ∧ W.cell? ⟨w.heap.size, 1, none⟩ = some (.int .u64 (n : Int)) ∧ W.cell? ⟨w.heap.size, 2, none⟩ = some (.string key) ∧ W.cell? ⟨w.heap.size, 3, none⟩ = some (.string til) ∧ W.cell? ⟨w.heap.size, 4, none⟩ = some (.string value) ∧ W.cell? ⟨w.heap.size, 5, none⟩ = some (.int .i64 level) ∧ W.cell? ⟨w.heap.size, 6, none⟩ = some (.int .u64 (lsn : Int))) (go_keep) (first
      | (go_at_call 19; (with_reducible refine (o_may k n key til value level lsn _ HM.out _).mono ?_); rintro e w4 ⟨rfl, hb4⟩; (try replace hb4 := below_undrew hb4); have HX4 : Blk w4 w.heap.size 34 [.int .i64 k, .int .u64 (n : Int), .string key, .string til, .string value, .int .i64 level, .int .u64 (lsn : Int)] := (by first | exact HX5.below hb4 HX5.lt | exact HX.below hb4 HX.lt); have HB4 : Below w.heap.size w w4 := (by first | exact HB5.trans (hb4.mono HB5.size) | exact HB.trans (hb4.mono HB.size)); obtain ⟨g0, g1, g2, g3, g4, g5, g6⟩ := cells7 HX4)
      | (go_at_call 20; (with_reducible refine (o_rmay k n key til value level lsn _ HM.out _).mono ?_); rintro e w5 ⟨rfl, hb5⟩; (try replace hb5 := below_undrew hb5); have HX5 : Blk w5 w.heap.size 34 [.int .i64 k, .int .u64 (n : Int), .string key, .string til, .string value, .int .i64 level, .int .u64 (lsn : Int)] := (by first | exact HX4.below hb5 HX4.lt | exact HX.below hb5 HX.lt); have HB5 : Below w.heap.size w w5 := (by first | exact HB4.trans (hb5.mono HB4.size) | exact HB.trans (hb5.mono HB.size)); obtain ⟨g0, g1, g2, g3, g4, g5, g6⟩ := cells7 HX5))
    all_goals
      go_wp2_with fail
      go_meet
      first
      | exact ⟨rfl, HB5, HX5⟩
      | exact ⟨rfl, HB4, HX4⟩
  case rest =>
    clear HB HX f0 f1 f2 f3 f4 f5 f6
    obtain ⟨rfl, HB, HX⟩ := hcut
    obtain ⟨f0, f1, f2, f3, f4, f5, f6⟩ := cells7 HX
    go_wp2_with (first
      | (go_at_call 20; (with_reducible refine (o_rmay k n key til value level lsn _ HM.out _).mono ?_); rintro e w5 ⟨rfl, hb⟩; replace HX := HX.below hb HX.lt; replace HB := HB.trans (hb.mono HB.size); clear hb f0 f1 f2 f3 f4 f5 f6)
      | (go_at_call 14; refine (num_any _ _).mono ?_; rintro e wq ⟨rfl, rfl⟩)
      | (go_at_call 11; refine (known_any _ (henv.below HB)).mono ?_; rintro e w3 ⟨rfl, hb⟩; replace HB := HB.trans (hb.mono HB.size); clear hb))
    go_ret
    exact ⟨rfl, HB⟩

/-- what the walk is told of an operation that may be told -/
structure OrdYes (o : Opr) (node : Int) (nm t a : ByteArray) (len : Nat) : Prop where
  text : opTextR o = .tuple #[.string t, .int .i64 0]
  act : actTextR ⟨1, node, 0, 0, o, []⟩ = .tuple #[.string a, .int .i64 0]
  name : opName o.kind = nm
  txt : opText o = t
  ofT : opOfT t = some o
  ofA : actOfT a = some ⟨1, node, 0, 0, o, []⟩
  cutT : ∃ r, splitT 32 t = nm :: r ∧ r.length + 1 = len
  cutA : ∃ r, splitT 32 a = ⟨#[111, 112]⟩ :: r ∧ r.length + 1 = len + 2
  sizeT : t.size ≤ 20000
  sizeA : a.size ≤ 30000
  low : t.size + 4 ≤ a.size
  fin : a.extract (a.size - t.size) a.size = t
theorem ordYes {o : Opr} {node : Int} (ha : OrdArgs o node) (h1 : o.key.size ≤ 2000) (h2 : o.til.size ≤ 2000) (h3 : o.value.size ≤ 2000) (hm : mayOp o = true) : ∃ nm t a len, OrdYes o node nm t a len := by
  obtain ⟨m, hk, e1, e2, e3⟩ := ord_words (node := node) hm
  obtain ⟨t1, t2⟩ := ord_yes (node := node) hm
  have ht := opText_small ha.ok h1 h2 h3
  have hA : mayAct ⟨1, node, 0, 0, o, []⟩ = true := by rw [mayAct_op]; exact hm
  obtain ⟨r, hr⟩ : ∃ r, opWords o m = opName o.kind :: r := ⟨_, opWords_opt o m⟩
  have hend := ord_end e3
  refine ⟨_, _, _, r.length + 1, t1, t2, rfl, rfl, opOfT_text hm ha.ok, actOfT_text hA ha.act, ⟨r, by rw [e1, hr], rfl⟩, ⟨ito node :: opName o.kind :: r, by rw [e2, hr]; rfl, by simp⟩, ht, ?_, hend.1, hend.2⟩
  have h4 := ito_size ha.node.1 ha.node.2
  have hb : bs (actText ⟨1, node, 0, 0, o, []⟩) = (bs (actName 1) ++ sp (ito node) ++ [32]) ++ bs (opText o) := by
    rw [e3, joinS_cons, bs_txt]
    simp [sp]
  have hl : (actText ⟨1, node, 0, 0, o, []⟩).size = (bs (actName 1) ++ sp (ito node) ++ [32]).length + (opText o).size := by
    rw [← bs_length, hb, List.length_append, bs_length (opText o)]
  have h5 : (bs (actName 1)).length = 2 := rfl
  have h6 : (bs (ito node)).length = (ito node).size := bs_length _
  simp only [List.length_append, List.length_cons, List.length_nil, sp, h5, h6] at hl
  omega

set_option maxRecDepth 100000 in
set_option maxHeartbeats 8000000 in
theorem lawOrd_yes (k : Int) (n : Nat) (key til value : ByteArray) (level : Int) (lsn : Nat) (node : Int) (ha : OrdArgs ⟨k, n, key, til, value, level, lsn⟩ node) (hs : smallA ⟨0, 0, 0, 0, ⟨k, n, key, til, value, level, lsn⟩, []⟩) (hm : mayOp ⟨k, n, key, til, value, level, lsn⟩ = true) (nm t a : ByteArray) (len : Nat) (hy : OrdYes ⟨k, n, key, til, value, level, lsn⟩ node nm t a len) (w : World) (henv : Env w) : Calls Tryz.prog 4 #[.agg #[.int .i64 k, .int .u64 (n : Int), .string key, .string til, .string value, .int .i64 level, .int .u64 (lsn : Int)], .int .i64 node] w fun e w' => e = .returned (.bool true) ∧ Below w.heap.size w w' := by
  have HB := (Below.refl w.heap.size w).alloc (Nat.le_refl _) (.cells #[.int .i64 k, .int .u64 (n : Int), .string key, .string til, .string value, .int .i64 level, .int .u64 (lsn : Int)] 34)
  have HX := Blk.new w 34 [.int .i64 k, .int .u64 (n : Int), .string key, .string til, .string value, .int .i64 level, .int .u64 (lsn : Int)]
  have zt := hy.sizeT; have za := hy.sizeA; have zl := hy.low
  have hlen : 0 < len := by obtain ⟨r, _, e⟩ := hy.cutT; omega
  have HM := Lib.hid hm; have HS := Lib.hid hs; have HA := Lib.hid ha; have HY := Lib.hid hy
  clear hm hs ha hy
  go_enter Tryz.func4, Tryz.ntmps4
  go_wp2_with (first
    | (go_at_call 16; (with_reducible refine (o_great1 k n key til value level lsn HS.out _).mono ?_); rintro e w1 ⟨rfl, hb⟩; replace HX := HX.below hb HX.lt; replace HB := HB.trans (hb.mono HB.size); clear hb; obtain ⟨f0, f1, f2, f3, f4, f5, f6⟩ := cells7 HX)
    | (go_at_call 17; (with_reducible refine (o_text k n key til value level lsn HA.out.ok _ _ HY.out.text _ (henv.below HB)).mono ?_); rintro e w2 ⟨rfl, hb⟩; replace HX := HX.below hb HX.lt; replace HB := HB.trans (hb.mono HB.size); clear hb f0 f1 f2 f3 f4 f5 f6; obtain ⟨f0, f1, f2, f3, f4, f5, f6⟩ := cells7 HX)
    | (go_at_call 18; (with_reducible refine (o_act k n key til value level lsn node HA.out.act _ _ HY.out.act _ (henv.below HB)).mono ?_); rintro e w3 ⟨rfl, hb⟩; replace HX := HX.below hb HX.lt; replace HB := HB.trans (hb.mono HB.size); clear hb f0 f1 f2 f3 f4 f5 f6; obtain ⟨f0, f1, f2, f3, f4, f5, f6⟩ := cells7 HX))
  go_cut [36] (fun d wx => d = .bool false ∧ Below w.heap.size w wx ∧ Blk wx w.heap.size 34 [.int .i64 k, .int .u64 (n : Int), .string key, .string til, .string value, .int .i64 level, .int .u64 (lsn : Int)])
  case first =>
    go_region_held3 (fun W => W.cell? ⟨w.heap.size, 0, none⟩ = some (.int .i64 k) ∧ W.cell? ⟨w.heap.size, 1, none⟩ = some (.int .u64 (n : Int)) ∧ W.cell? ⟨w.heap.size, 2, none⟩ = some (.string key) ∧ W.cell? ⟨w.heap.size, 3, none⟩ = some (.string til) ∧ W.cell? ⟨w.heap.size, 4, none⟩ = some (.string value) ∧ W.cell? ⟨w.heap.size, 5, none⟩ = some (.int .i64 level) ∧ W.cell? ⟨w.heap.size, 6, none⟩ = some (.int .u64 (lsn : Int))) (go_keep) (first
      | (go_at_call 19; (with_reducible refine (o_may k n key til value level lsn _ HM.out _).mono ?_); rintro e w4 ⟨rfl, hb4⟩; (try replace hb4 := below_undrew hb4); have HX4 : Blk w4 w.heap.size 34 [.int .i64 k, .int .u64 (n : Int), .string key, .string til, .string value, .int .i64 level, .int .u64 (lsn : Int)] := (by first | exact HX5.below hb4 HX5.lt | exact HX.below hb4 HX.lt); have HB4 : Below w.heap.size w w4 := (by first | exact HB5.trans (hb4.mono HB5.size) | exact HB.trans (hb4.mono HB.size)); obtain ⟨g0, g1, g2, g3, g4, g5, g6⟩ := cells7 HX4)
      | (go_at_call 20; (with_reducible refine (o_rmay k n key til value level lsn _ HM.out _).mono ?_); rintro e w5 ⟨rfl, hb5⟩; (try replace hb5 := below_undrew hb5); have HX5 : Blk w5 w.heap.size 34 [.int .i64 k, .int .u64 (n : Int), .string key, .string til, .string value, .int .i64 level, .int .u64 (lsn : Int)] := (by first | exact HX4.below hb5 HX4.lt | exact HX.below hb5 HX.lt); have HB5 : Below w.heap.size w w5 := (by first | exact HB4.trans (hb5.mono HB4.size) | exact HB.trans (hb5.mono HB.size)); obtain ⟨g0, g1, g2, g3, g4, g5, g6⟩ := cells7 HX5))
    all_goals
      go_wp2_with fail
      go_meet
      first
      | exact ⟨rfl, HB5, HX5⟩
      | exact ⟨rfl, HB4, HX4⟩
  case rest =>
    clear HB HX f0 f1 f2 f3 f4 f5 f6
    obtain ⟨rfl, HB, HX⟩ := hcut
    obtain ⟨f0, f1, f2, f3, f4, f5, f6⟩ := cells7 HX
    have q0 : (0 : Int) < (len : Int) := by omega
    have q1 : ¬ ((len + 2 : Nat) : Int) < 3 := by omega
    have q2 : (0 : Int) < ((len + 2 : Nat) : Int) := by omega
    have q3 : (t.size : Int) ≤ (a.size : Int) := by omega
    have q4 : ((a.size : Int) - (t.size : Int)).toNat = a.size - t.size := by omega
    have HFin := HY.out.fin
    go_wp2_with (first
      | (go_at_call 20; (with_reducible refine (o_rmay k n key til value level lsn _ HM.out _).mono ?_); rintro e w5 ⟨rfl, hb⟩; replace HX := HX.below hb HX.lt; replace HB := HB.trans (hb.mono HB.size); clear hb f0 f1 f2 f3 f4 f5 f6; obtain ⟨f0, f1, f2, f3, f4, f5, f6⟩ := cells7 HX)
      | (go_at_call 21; (with_reducible refine (o_name k n key til value level lsn nm HM.out HY.out.name _).mono ?_); rintro e w6 ⟨⟨p, rfl⟩, hb⟩; replace HX := HX.below hb HX.lt; replace HB := HB.trans (hb.mono HB.size); clear hb f0 f1 f2 f3 f4 f5 f6)
      | (go_at_call 22; (with_reducible refine (o_of k n key til value level lsn t (by omega) HY.out.ofT _ (henv.below HB)).mono ?_); rintro e w7 ⟨rfl, hb⟩; replace HX := (HX.below hb HX.lt).alloc (.cells #[.int .i64 k, .int .u64 (n : Int), .string key, .string til, .string value, .int .i64 level, .int .u64 (lsn : Int)] 34); replace HB := (HB.trans (hb.mono HB.size)).alloc (HB.trans (hb.mono HB.size)).size (.cells #[.int .i64 k, .int .u64 (n : Int), .string key, .string til, .string value, .int .i64 level, .int .u64 (lsn : Int)] 34); clear hb; have HZ := Blk.new w7 34 [.int .i64 k, .int .u64 (n : Int), .string key, .string til, .string value, .int .i64 level, .int .u64 (lsn : Int)]; obtain ⟨f0, f1, f2, f3, f4, f5, f6⟩ := cells7 HX)
      | (go_at_call 23; (with_reducible refine (o_rtext k n key til value level lsn HA.out.ok HS.out t HM.out HY.out.txt _ (henv.below HB)).mono ?_); rintro e w8 ⟨rfl, hb⟩; replace HX := HX.below hb HX.lt; replace HZ := HZ.below hb HZ.lt; replace HB := HB.trans (hb.mono HB.size); clear hb f0 f1 f2 f3 f4 f5 f6)
      | (go_at_call 24; (with_reducible refine (o_split t nm len (by omega) HY.out.cutT _).mono ?_); rintro e w9 ⟨⟨g, c, rfl, hgc, hg, hgl⟩, hb⟩; replace HX := HX.below hb HX.lt; replace HZ := HZ.below hb HZ.lt; replace HB := HB.trans (hb.mono HB.size); clear hb; obtain ⟨f0, f1, f2, f3, f4, f5, f6⟩ := cells7 HX; obtain ⟨g0, g1, g2, g3, g4, g5, g6⟩ := cells7 HZ)
      | (go_at_call 24; (with_reducible refine (o_split a ⟨#[111, 112]⟩ (len + 2) (by omega) HY.out.cutA _).mono ?_); rintro e w10 ⟨⟨g', c', rfl, hgc', hg', hgl'⟩, hb⟩; replace HX := HX.below hb HX.lt; replace HB := HB.trans (hb.mono HB.size); clear hb f0 f1 f2 f3 f4 f5 f6 g0 g1 g2 g3 g4 g5 g6)
      | (go_at_call 14; refine (num_any _ _).mono ?_; rintro e wq ⟨rfl, rfl⟩)
      | (go_at_call 25; (with_reducible refine (o_aof k n key til value level lsn node a (by omega) HY.out.ofA _ (henv.below HB)).mono ?_); rintro e w11 ⟨⟨pa, pc, rfl⟩, hb⟩; replace HX := (HX.below hb HX.lt).alloc (.cells #[.int .i64 1, .int .i64 node, .int .i64 0, .int .i64 0, .int .i64 k, .int .u64 (n : Int), .string key, .string til, .string value, .int .i64 level, .int .u64 (lsn : Int), .slice pa 0 pc] 39); replace HB := (HB.trans (hb.mono HB.size)).alloc (HB.trans (hb.mono HB.size)).size (.cells #[.int .i64 1, .int .i64 node, .int .i64 0, .int .i64 0, .int .i64 k, .int .u64 (n : Int), .string key, .string til, .string value, .int .i64 level, .int .u64 (lsn : Int), .slice pa 0 pc] 39); clear hb; obtain ⟨f0, f1, f2, f3, f4, f5, f6⟩ := cells7 HX)
      | (go_at_call 26; (with_reducible refine (o_same k n key til value level lsn node _ _ _ _ _).mono ?_); rintro e w12 ⟨rfl, hb⟩; replace HB := HB.trans (hb.mono HB.size); clear hb)
      | (go_at_call 11; refine (known_any _ (henv.below HB)).mono ?_; rintro e w13 ⟨rfl, hb⟩; replace HB := HB.trans (hb.mono HB.size); clear hb))
    go_ret
    exact ⟨rfl, HB⟩

theorem lawOrd (o : Opr) (node : Int) (ha : OrdArgs o node) (w : World) (henv : Env w) : Calls Tryz.prog 4 #[opV o, .int .i64 node] w fun e w' => e = .returned (.bool true) ∧ Below w.heap.size w w' := by
  obtain ⟨k, n, key, til, value, level, lsn⟩ := o
  by_cases hs : smallA ⟨0, 0, 0, 0, ⟨k, n, key, til, value, level, lsn⟩, []⟩
  · cases hm : mayOp ⟨k, n, key, til, value, level, lsn⟩ with
    | false => exact lawOrd_no k n key til value level lsn node ha hs hm w henv
    | true =>
      obtain ⟨nm, t, a, len, hy⟩ := ordYes ha hs.1 hs.2.1 hs.2.2.1 hm
      exact lawOrd_yes k n key til value level lsn node ha hs hm nm t a len hy w henv
  · exact lawOrd_big k n key til value level lsn node hs w henv
theorem lawOrders (o : Opr) (node : Int) (ok : OprOk o) (r : -9223372036854775808 ≤ node ∧ node ≤ 9223372036854775807) (w : World) (henv : Env w) : Calls Tryz.prog 4 #[opV o, .int .i64 node] w fun e w' => e = .returned (.bool true) ∧ Below w.heap.size w w' :=
  lawOrd o node ⟨ok, r⟩ w henv
end Go.Proofs.YtgplaeopcejmoaaGreatDoor
