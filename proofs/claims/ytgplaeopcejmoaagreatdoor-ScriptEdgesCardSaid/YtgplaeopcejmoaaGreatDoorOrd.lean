/- The law ScriptOrders, walked. -/
import Derived.Test.YtgplaeopcejmoaaGreatDoorKnown
import Derived.Test.YtgplaeopcejmoaaGreatDoorRoptext
import Derived.Test.YtgplaeopcejmoaaGreatDoorRsame
namespace Go.Proofs.YtgplaeopcejmoaaGreatDoor
open Go.RowKit Go.Shelf

theorem mayAct_op (node : Int) (o : Opr) : mayAct ⟨1, node, 0, 0, o, []⟩ = mayOp o := by
  rw [mayAct_some (a := ⟨1, node, 0, 0, o, []⟩) (m := 9) rfl]
  unfold mayA
  simp [ha9_1, ha9_2, ha9_4, ha9_8, ha9_16]
structure OrdArgs (o : Opr) (node : Int) : Prop where
  ok : OprOk o
  node : -9223372036854775808 ≤ node ∧ node ≤ 9223372036854775807
theorem zero64 : (-9223372036854775808 : Int) ≤ 0 ∧ (0 : Int) ≤ 9223372036854775807 := by decide
theorem OrdArgs.act {o : Opr} {node : Int} (h : OrdArgs o node) : ActOk ⟨1, node, 0, 0, o, []⟩ :=
  ⟨h.node, zero64, zero64, (fun x hx => by cases hx), h.ok.n, h.ok.lsn, h.ok.level⟩
/-- what is known of an operation that may be told, and of its texts -/
theorem ord_words {o : Opr} {node : Int} (h : mayOp o = true) : ∃ m, getI namedL o.kind = some m ∧ splitT 32 (opText o) = opWords o m ∧ splitT 32 (actText ⟨1, node, 0, 0, o, []⟩) = actName 1 :: ito node :: opWords o m ∧ actText ⟨1, node, 0, 0, o, []⟩ = joinS (actName 1 :: ito node :: [opText o]) := by
  obtain ⟨m, hm, hw⟩ := mayOp_mask h
  have hA : mayAct ⟨1, node, 0, 0, o, []⟩ = true := by rw [mayAct_op]; exact h
  have hk : getI ofActL 1 = some 9 := rfl
  have hwA : mayA 9 ⟨1, node, 0, 0, o, []⟩ = true := by rw [← mayAct_some (a := ⟨1, node, 0, 0, o, []⟩) hk]; exact hA
  have hmk : opMask ⟨1, node, 0, 0, o, []⟩ = m := by unfold opMask; rw [hm]; rfl
  refine ⟨m, hm, split_opText hm, ?_, ?_⟩
  · rw [split_actText (a := ⟨1, node, 0, 0, o, []⟩) hk hwA, hmk]
    unfold actW optW optsW
    simp [ha9_1, ha9_2, ha9_4, ha9_8, ha9_16]
  · unfold actText
    rw [show (getI ofActL (Ar.kind ⟨1, node, 0, 0, o, []⟩)).getD 0 = 9 from rfl, actWords_opt]
    unfold optW optsW
    simp [ha9_1, ha9_2, ha9_4, ha9_8, ha9_16]
theorem ord_end {node : Int} {a t : ByteArray} (ha : a = joinS (actName 1 :: ito node :: [t])) : t.size + 4 ≤ a.size ∧ a.extract (a.size - t.size) a.size = t := by
  have hb : bs a = (bs (actName 1) ++ sp (ito node) ++ [32]) ++ bs t := by
    rw [ha, joinS_cons, bs_txt]
    simp [sp]
  have hl : a.size = (bs (actName 1) ++ sp (ito node) ++ [32]).length + t.size := by
    rw [← bs_length a, hb, List.length_append, bs_length t]
  have h4 : 4 ≤ (bs (actName 1) ++ sp (ito node) ++ [32]).length := by
    have : (bs (actName 1)).length = 2 := rfl
    simp only [List.length_append, List.length_cons, List.length_nil, sp, this]; omega
  refine ⟨by omega, ?_⟩
  rw [← txt_bs (a.extract _ _), bs_extract, hb]
  rw [show a.size - t.size = (bs (actName 1) ++ sp (ito node) ++ [32]).length by omega, List.drop_left, List.take_of_length_le (by rw [bs_length]; omega), txt_bs]

theorem opName_size (k : Int) : (opName k).size ≤ 10 := by
  unfold opName
  split
  · rename_i h
    by_cases h2 : k ≤ 12
    · obtain ⟨x, hx, e⟩ := opName_nm h h2
      have := nm_size x
      unfold opName at e
      rw [if_pos h] at e
      rw [e]; exact this
    · rw [List.getElem?_eq_none (by show opNames.length ≤ _; have : opNames.length = 12 := rfl; omega)]
      decide
  · decide
theorem opt_tot (b : Bool) (x : ByteArray) : tot (optW b x) ≤ x.size ∧ (optW b x).length ≤ 1 := by
  unfold optW
  split
  · rw [tot_one]; exact ⟨Nat.le_refl _, Nat.le_refl _⟩
  · exact ⟨Nat.zero_le _, Nat.zero_le _⟩
theorem opText_small {o : Opr} (ok : OprOk o) (h1 : o.key.size ≤ 2000) (h2 : o.til.size ≤ 2000) (h3 : o.value.size ≤ 2000) : (opText o).size ≤ 20000 := by
  have a1 := dec_size ok.n; have a2 := dec_size ok.lsn; have a3 := ito_size ok.level.1 ok.level.2
  have a4 := wtx_size2 h1; have a5 := wtx_size2 h2; have a6 := wtx_size2 h3
  have b0 := opName_size o.kind
  have j := join_len (opWords o ((getI namedL o.kind).getD 0)) [32]
  simp only [List.length_cons, List.length_nil] at j
  unfold opText joinS
  show (List.toArray _).size ≤ _
  rw [List.size_toArray]
  refine Nat.le_trans j ?_
  rw [opWords_opt]
  have c1 := opt_tot (hasF ((getI namedL o.kind).getD 0) 1) (dec o.n)
  have c2 := opt_tot (hasF ((getI namedL o.kind).getD 0) 2) (dec o.lsn)
  have c3 := opt_tot (hasF ((getI namedL o.kind).getD 0) 4) (wtx o.key)
  have c4 := opt_tot (hasF ((getI namedL o.kind).getD 0) 8) (wtx o.til)
  have c5 := opt_tot (hasF ((getI namedL o.kind).getD 0) 16) (wtx o.value)
  have c6 := opt_tot (hasF ((getI namedL o.kind).getD 0) 32) (ito o.level)
  have hc : ∀ (x : ByteArray) (l : List ByteArray), tot (x :: l) = x.size + tot l := fun x l => by
    have := tot_app [x] l
    rw [tot_one] at this
    exact this
  rw [hc]
  simp only [tot_app, List.length_cons, List.length_append]
  omega

section
variable (k : Int) (n : Nat) (key til value : ByteArray) (level : Int) (lsn : Nat) (node : Int)
theorem o_great0 (h : ¬ smallA ⟨0, 0, 0, 0, ⟨k, n, key, til, value, level, lsn⟩, []⟩) (w : World) : Calls Tryz.prog 16 #[.agg #[.int .i64 0, .int .i64 0, .int .i64 0, .int .i64 0, .int .i64 k, .int .u64 (n : Int), .string key, .string til, .string value, .int .i64 level, .int .u64 (lsn : Int), .slice none 0 0]] w fun e w' => e = .returned (.bool true) ∧ Below w.heap.size w w' := great_yes ⟨0, 0, 0, 0, ⟨k, n, key, til, value, level, lsn⟩, []⟩ h none 0 w
theorem o_great1 (h : smallA ⟨0, 0, 0, 0, ⟨k, n, key, til, value, level, lsn⟩, []⟩) (w : World) : Calls Tryz.prog 16 #[.agg #[.int .i64 0, .int .i64 0, .int .i64 0, .int .i64 0, .int .i64 k, .int .u64 (n : Int), .string key, .string til, .string value, .int .i64 level, .int .u64 (lsn : Int), .slice none 0 0]] w fun e w' => e = .returned (.bool false) ∧ Below w.heap.size w w' := great_no ⟨0, 0, 0, 0, ⟨k, n, key, til, value, level, lsn⟩, []⟩ h none 0 w
theorem o_text (ok : OprOk ⟨k, n, key, til, value, level, lsn⟩) (t : ByteArray) (x : Int) (h : opTextR ⟨k, n, key, til, value, level, lsn⟩ = .tuple #[.string t, .int .i64 x]) (w : World) (henv : Env w) : Calls Tryz.prog 17 #[.agg #[.int .i64 k, .int .u64 (n : Int), .string key, .string til, .string value, .int .i64 level, .int .u64 (lsn : Int)]] w fun e w' => e = .returned (.tuple #[.string t, .int .i64 x]) ∧ Below w.heap.size w w' :=
  (optext_any ⟨k, n, key, til, value, level, lsn⟩ ok.n ok.lsn ok.level.1 ok.level.2 w henv).mono fun _ _ ⟨he, hb⟩ => ⟨by rw [he, h], hb⟩
theorem o_act (ok : ActOk ⟨1, node, 0, 0, ⟨k, n, key, til, value, level, lsn⟩, []⟩) (t : ByteArray) (x : Int) (h : actTextR ⟨1, node, 0, 0, ⟨k, n, key, til, value, level, lsn⟩, []⟩ = .tuple #[.string t, .int .i64 x]) (w : World) (henv : Env w) : Calls Tryz.prog 18 #[.agg #[.int .i64 1, .int .i64 node, .int .i64 0, .int .i64 0, .int .i64 k, .int .u64 (n : Int), .string key, .string til, .string value, .int .i64 level, .int .u64 (lsn : Int), .slice none 0 0]] w fun e w' => e = .returned (.tuple #[.string t, .int .i64 x]) ∧ Below w.heap.size w w' :=
  (acttext_any ⟨1, node, 0, 0, ⟨k, n, key, til, value, level, lsn⟩, []⟩ ok none 0 w (fun h => absurd rfl h) (fun h => absurd rfl h) henv).mono fun _ _ ⟨he, hb⟩ => ⟨by rw [he, h], hb⟩
theorem o_may (b : Bool) (h : mayOp ⟨k, n, key, til, value, level, lsn⟩ = b) (w : World) : Calls Tryz.prog 19 #[.agg #[.int .i64 k, .int .u64 (n : Int), .string key, .string til, .string value, .int .i64 level, .int .u64 (lsn : Int)]] w fun e w' => e = .returned (.bool b) ∧ Below w.heap.size w w' :=
  (mayop_any k n key til value level lsn w).mono fun _ _ ⟨he, hb⟩ => ⟨by rw [he, h], hb⟩
theorem o_rmay (b : Bool) (h : mayOp ⟨k, n, key, til, value, level, lsn⟩ = b) (w : World) : Calls Tryz.prog 20 #[.agg #[.int .i64 k, .int .u64 (n : Int), .string key, .string til, .string value, .int .i64 level, .int .u64 (lsn : Int)]] w fun e w' => e = .returned (.bool b) ∧ Below w.heap.size w w' :=
  (refmay_any ⟨k, n, key, til, value, level, lsn⟩ w).mono fun _ _ ⟨he, hb⟩ => ⟨by rw [he, h], hb⟩
theorem o_of (t : ByteArray) (ht : t.size ≤ 1000000) (h : opOfT t = some ⟨k, n, key, til, value, level, lsn⟩) (w : World) (henv : Env w) : Calls Tryz.prog 22 #[.string t] w fun e w' => e = .returned (.tuple #[.agg #[.int .i64 k, .int .u64 (n : Int), .string key, .string til, .string value, .int .i64 level, .int .u64 (lsn : Int)], .int .i64 0]) ∧ Below w.heap.size w w' :=
  (opofT_any t ht w henv).mono fun _ _ ⟨he, hb⟩ => ⟨by rw [he, h]; rfl, hb⟩
theorem o_rtext (ok : OprOk ⟨k, n, key, til, value, level, lsn⟩) (hs : smallA ⟨0, 0, 0, 0, ⟨k, n, key, til, value, level, lsn⟩, []⟩) (t : ByteArray) (hm : mayOp ⟨k, n, key, til, value, level, lsn⟩ = true) (h : opText ⟨k, n, key, til, value, level, lsn⟩ = t) (w : World) (henv : Env w) : Calls Tryz.prog 23 #[.agg #[.int .i64 k, .int .u64 (n : Int), .string key, .string til, .string value, .int .i64 level, .int .u64 (lsn : Int)]] w fun e w' => e = .returned (.string t) ∧ Below w.heap.size w w' := by
  obtain ⟨m, hm, _⟩ := mayOp_mask hm
  obtain ⟨h1, h2⟩ := named_range hm
  obtain ⟨x, hx, _⟩ := opName_nm h1 h2
  exact (refoptext_in x ⟨k, n, key, til, value, level, lsn⟩ hx ok hs.1 hs.2.1 hs.2.2.1 w henv).mono fun _ _ ⟨he, hb⟩ => ⟨by rw [he, h], hb⟩
theorem o_name (nm : ByteArray) (hm : mayOp ⟨k, n, key, til, value, level, lsn⟩ = true) (h : opName k = nm) (w : World) : Calls Tryz.prog 21 #[.int .i64 k] w fun e w' => (∃ p, e = .returned (.tuple #[.string nm, .string p])) ∧ Below w.heap.size w w' := by
  obtain ⟨m, hm, _⟩ := mayOp_mask hm
  obtain ⟨h1, h2⟩ := named_range hm
  simp only at h1 h2
  obtain ⟨x, rfl, e⟩ := opName_nm h1 h2
  refine (rnp_in x w).mono fun e' w' ⟨he, hb⟩ => ⟨⟨rnpPt x, ?_⟩, hb⟩
  rw [he, ← h, e]
theorem o_split (t x : ByteArray) (len : Nat) (ht : t.size ≤ 90000) (h : ∃ r, splitT 32 t = x :: r ∧ r.length + 1 = len) (w : World) : Calls Tryz.prog 24 #[.string t, .int .u8 32] w fun e w' => (∃ g c, e = .returned (.slice (some ⟨g, 0, none⟩) len c) ∧ len ≤ c ∧ w'.cell? ⟨g, 0, none⟩ = some (.string x) ∧ g < w'.heap.size) ∧ Below w.heap.size w w' := by
  obtain ⟨r, hr, hlen⟩ := h
  refine (split_any t 32 ht w).mono fun _ _ ⟨⟨v, he, ho⟩, hb⟩ => ⟨?_, hb⟩
  rw [hr] at ho
  obtain ⟨g, c, hv, hg, hg2⟩ := ho.form (by simp)
  subst hv
  have hc := World.ownsRow.cells ho (g := g) rfl 0 (.string x) (by simp [cellsS])
  refine ⟨g, c, by rw [he, ← hlen]; rfl, ?_, by rw [Addr.add_lit] at hc; simpa using hc, hg2⟩
  rcases ho.2 with ⟨e, _⟩ | ⟨g', cap, cur, e, _, _, hcap, _⟩
  · cases e
  · injection e with _ _ e
    rw [← hlen, e]
    simpa using hcap
theorem o_aof (a : ByteArray) (ha : a.size ≤ 1000000) (h : actOfT a = some ⟨1, node, 0, 0, ⟨k, n, key, til, value, level, lsn⟩, []⟩) (w : World) (henv : Env w) : Calls Tryz.prog 25 #[.string a] w fun e w' => (∃ pa pc, e = .returned (.tuple #[.agg #[.int .i64 1, .int .i64 node, .int .i64 0, .int .i64 0, .int .i64 k, .int .u64 (n : Int), .string key, .string til, .string value, .int .i64 level, .int .u64 (lsn : Int), .slice pa 0 pc], .int .i64 0])) ∧ Below w.heap.size w w' :=
  (actofT_any a ha w henv).mono fun _ _ ⟨he, hb⟩ => ⟨by
    rw [h] at he
    obtain ⟨pa, pc, he, _⟩ := he
    exact ⟨pa, pc, he⟩, hb⟩
theorem o_same (pa pb : Option Addr) (ca cb : Nat) (w : World) : Calls Tryz.prog 26 #[.agg #[.int .i64 1, .int .i64 node, .int .i64 0, .int .i64 0, .int .i64 k, .int .u64 (n : Int), .string key, .string til, .string value, .int .i64 level, .int .u64 (lsn : Int), .slice pa 0 ca], .agg #[.int .i64 1, .int .i64 node, .int .i64 0, .int .i64 0, .int .i64 k, .int .u64 (n : Int), .string key, .string til, .string value, .int .i64 level, .int .u64 (lsn : Int), .slice pb 0 cb]] w fun e w' => e = .returned (.bool true) ∧ Below w.heap.size w w' :=
  refsame_eq ⟨1, node, 0, 0, ⟨k, n, key, til, value, level, lsn⟩, []⟩ pa pb ca cb w (by simp) (PkAt.nil _ _) (PkAt.nil _ _)
end
end Go.Proofs.YtgplaeopcejmoaaGreatDoor
