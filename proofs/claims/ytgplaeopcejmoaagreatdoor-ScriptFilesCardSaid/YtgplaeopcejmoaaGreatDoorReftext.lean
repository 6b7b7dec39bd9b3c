/- The walk of the document's Text. -/
import Derived.Test.YtgplaeopcejmoaaGreatDoorSetting
namespace Go.Proofs.YtgplaeopcejmoaaGreatDoor
open Go.RowKit Go.Shelf

theorem appendL_b (w : World) (base : Nat) (v : Value) (xs : Bs) (hown : OwnB w base v xs) (hn : xs.length ≤ 100000000) (hbase : base ≤ w.heap.size) (ad : Addr) (m c : Nat) (news : Bs) (hm : m = news.length) (hn2 : m ≤ 1000000)
    (hnews : ∀ j u, (cellsB news)[j]? = some u → w.cell? (ad.add j) = some u) (ty : TypeId) :
    ∃ v' w', (∀ cs, (builtin .append #[77, 77] ty cs #[v, .slice (some ad) m c]).run Tryz.prog w = .ok (.value v') w') ∧ OwnB w' base v' (xs ++ news) ∧ w.grownBy w' v.ownBlock := by
  subst hm
  obtain ⟨i0, hi0, hz0, hz1, hz2⟩ := info_parts infoU8
  obtain ⟨v', w', hr, h1, h2, _⟩ := run_append_own (P := Tryz.prog) w base 77 ty 5 i0 _ 1 1 Tryz.underlying77 hi0 hz0 hz1 hz2 rfl (by omega) v xs.length (cellsB xs) hown ad news.length c (cellsB news) (by simp [cellsB]) hnews (cellsB_one _) (by unfold maxLen; omega) (by omega) hbase
  refine ⟨v', w', fun _ => by simp only [builtin, Sem.run_bind, hr, Result.andThen_ok, Sem.run_pure], ?_, h2⟩
  unfold OwnB
  rw [List.length_append, cellsB_append]
  exact h1
theorem stepL_append_b {w : World} {ops : Array Oper} {o : Oper} {a : Act} {K : Act → World → Prop} {Q : Exit → Act → World → Prop} {E : Prop} (hgd : o.guard = none) (s x : Operand)
    (ho : o.op = .call { callee := .builtin .append, args := #[s, x], argTypes := #[77, 77] }) (base : Nat) (v : Value) (xs : Bs) (ad : Addr) (m c : Nat) (news : Bs) (hs : a.eval s = v) (hx : a.eval x = .slice (some ad) m c)
    (hown : OwnB w base v xs) (hn : xs.length ≤ 100000000) (hbase : base ≤ w.heap.size) (hm : m = news.length) (hn2 : m ≤ 1000000) (hnews : ∀ j u, (cellsB news)[j]? = some u → w.cell? (ad.add j) = some u)
    (h : ∀ v' w', OwnB w' base v' (xs ++ news) → w.grownBy w' v.ownBlock → K (a.put o.dst v') w') : if Region.wanted o (yielded ops a.tmps) = true then Oper.wp Tryz.prog o a w K Q else E := by
  obtain ⟨v', w', hr, h1, h2⟩ := appendL_b w base v xs hown hn hbase ad m c news hm hn2 hnews o.type
  exact step_two hgd .append s x #[77, 77] ho v _ hs hx hr (h v' w' h1 h2)
theorem wpListL_append_b {w : World} {ops : Array Oper} {rest : List Oper} {o : Oper} {a : Act} {Q : Exit → Act → World → Prop} (hgd : o.guard = none) (s x : Operand)
    (ho : o.op = .call { callee := .builtin .append, args := #[s, x], argTypes := #[77, 77] }) (base : Nat) (v : Value) (xs : Bs) (ad : Addr) (m c : Nat) (news : Bs) (hs : a.eval s = v) (hx : a.eval x = .slice (some ad) m c)
    (hown : OwnB w base v xs) (hn : xs.length ≤ 100000000) (hbase : base ≤ w.heap.size) (hm : m = news.length) (hn2 : m ≤ 1000000) (hnews : ∀ j u, (cellsB news)[j]? = some u → w.cell? (ad.add j) = some u)
    (h : ∀ v' w', OwnB w' base v' (xs ++ news) → w.grownBy w' v.ownBlock → wpList Tryz.prog ops Q rest (a.put o.dst v') w') : wpList Tryz.prog ops Q (o :: rest) a w := by
  obtain ⟨v', w', hr, h1, h2⟩ := appendL_b w base v xs hown hn hbase ad m c news hm hn2 hnews o.type
  exact wpList_two hgd .append s x #[77, 77] ho v _ hs hx hr (h v' w' h1 h2)
theorem appendL_bs (w : World) (base : Nat) (v : Value) (xs : Bs) (hown : OwnB w base v xs) (hn : xs.length ≤ 100000000) (hbase : base ≤ w.heap.size) (s : ByteArray) (hn2 : s.size ≤ 100000000) (ty : TypeId) :
    ∃ v' w', (∀ cs, (builtin .append #[77, 9] ty cs #[v, .string s]).run Tryz.prog w = .ok (.value v') w') ∧ OwnB w' base v' (xs ++ s.data.toList) ∧ w.grownBy w' v.ownBlock := by
  obtain ⟨i0, hi0, hz0, hz1, hz2⟩ := info_parts infoU8
  obtain ⟨v', w', hr, h1, h2, _⟩ := Lib.run_append_own_string (P := Tryz.prog) w base 77 9 ty 5 i0 Tryz.underlying77 Tryz.underlying9 hi0 hz0 hz1 hz2 v xs.length (cellsB xs) hown s (by unfold maxLen; omega) (by omega) hbase
  refine ⟨v', w', fun _ => by simp only [builtin, Sem.run_bind, hr, Result.andThen_ok, Sem.run_pure], ?_, h2⟩
  unfold OwnB
  have e : s.data.toList.length = s.size := by rw [Array.length_toList]; rfl
  rw [List.length_append, cellsB_append, e]
  exact h1
theorem stepL_append_bs {w : World} {ops : Array Oper} {o : Oper} {a : Act} {K : Act → World → Prop} {Q : Exit → Act → World → Prop} {E : Prop} (hgd : o.guard = none) (d x : Operand)
    (ho : o.op = .call { callee := .builtin .append, args := #[d, x], argTypes := #[77, 9] }) (base : Nat) (v : Value) (xs : Bs) (s : ByteArray) (hs : a.eval d = v) (hx : a.eval x = .string s)
    (hown : OwnB w base v xs) (hn : xs.length ≤ 100000000) (hbase : base ≤ w.heap.size) (hn2 : s.size ≤ 100000000)
    (h : ∀ v' w', OwnB w' base v' (xs ++ s.data.toList) → w.grownBy w' v.ownBlock → K (a.put o.dst v') w') : if Region.wanted o (yielded ops a.tmps) = true then Oper.wp Tryz.prog o a w K Q else E := by
  obtain ⟨v', w', hr, h1, h2⟩ := appendL_bs w base v xs hown hn hbase s hn2 o.type
  exact step_two hgd .append d x #[77, 9] ho v _ hs hx hr (h v' w' h1 h2)
theorem wpListL_append_bs {w : World} {ops : Array Oper} {rest : List Oper} {o : Oper} {a : Act} {Q : Exit → Act → World → Prop} (hgd : o.guard = none) (d x : Operand)
    (ho : o.op = .call { callee := .builtin .append, args := #[d, x], argTypes := #[77, 9] }) (base : Nat) (v : Value) (xs : Bs) (s : ByteArray) (hs : a.eval d = v) (hx : a.eval x = .string s)
    (hown : OwnB w base v xs) (hn : xs.length ≤ 100000000) (hbase : base ≤ w.heap.size) (hn2 : s.size ≤ 100000000)
    (h : ∀ v' w', OwnB w' base v' (xs ++ s.data.toList) → w.grownBy w' v.ownBlock → wpList Tryz.prog ops Q rest (a.put o.dst v') w') : wpList Tryz.prog ops Q (o :: rest) a w := by
  obtain ⟨v', w', hr, h1, h2⟩ := appendL_bs w base v xs hown hn hbase s hn2 o.type
  exact wpList_two hgd .append d x #[77, 9] ho v _ hs hx hr (h v' w' h1 h2)
theorem OwnB.alloc {w : World} {base : Nat} {v : Value} {l : Bs} (h : OwnB w base v l) (x : Obj) : OwnB (w.alloc x) base v l := h.below ((Below.refl _ _).alloc (Nat.le_refl _) _)
theorem OwnB.drew {w : World} {base : Nat} {v : Value} {l : Bs} (h : OwnB w base v l) : OwnB w.drew base v l := h.below ((Below.refl _ _).drew)
theorem OwnB.size {w : World} {base : Nat} {v : Value} {l : Bs} (h : OwnB w base v l) : ∀ k, v.ownBlock = some k → base ≤ k := fun k hk => (World.ownsRow.lt h k hk).1
theorem rtext_any (a : Ar) (ok : ActOk a) (hs : smallA a) (hm : mayAct a = true) (pa : Option Addr) (pc : Nat) (w : World) (henv : Env w) (hP : PkAt w pa a.picks) : Calls Tryz.prog 29 #[.agg (actCells a (.slice pa a.picks.length pc)).toArray] w fun e w' => e = .returned (.string (actText a)) ∧ Below w.heap.size w w' := by
  obtain ⟨mm, hk, hw⟩ := mayAct_mask hm
  obtain ⟨h1, h2⟩ := getI_act hk
  obtain ⟨x, hx, _⟩ := actName_nm h1 h2
  refine refacttext_in x a hx ok hs (fun h0 => ?_) pa pc w henv hP
  refine (mayA_parts hw).2.2.2.2.2.2 ?_
  rw [h0] at hx
  have hk' : getI ofActL a.kind = some mm := hk
  rw [hx] at hk'
  have : mm = 9 := by
    have e : getI ofActL (1 + ((0 : Nat) : Int)) = some 9 := rfl
    rw [e] at hk'
    exact (Option.some.inj hk').symm
  rw [this]; exact ha9_8
structure RT (w1 W : World) (v : Value) (L : Bs) : Prop where
  bel : Below w1.heap.size w1 W
  own : OwnB W w1.heap.size v L
theorem RT.drew {w1 W : World} {v : Value} {L : Bs} (h : RT w1 W v L) : RT w1 W.drew v L := ⟨h.bel.drew, h.own.drew⟩
theorem RT.alloc {w1 W : World} {v : Value} {L : Bs} (h : RT w1 W v L) (x : Obj) : RT w1 (W.alloc x) v L := ⟨h.bel.alloc h.bel.size x, h.own.alloc x⟩
theorem RT.next {w1 W W' : World} {v : Value} {L : Bs} (h : RT w1 W v L) (hb : Below W.heap.size W W') : RT w1 W' v L := ⟨h.bel.trans (hb.mono h.bel.size), h.own.below hb⟩
theorem RT.turn {w1 W W' : World} {v v' : Value} {L L' : Bs} (h : RT w1 W v L) (hg : W.grownBy W' v.ownBlock) (ho : OwnB W' w1.heap.size v' L') : RT w1 W' v' L' := ⟨h.bel.grown hg h.bel.size (fun j e => h.own.size j e), ho⟩
structure Cel (W : World) (g k : Nat) (v : Value) : Prop where
  lt : g < W.heap.size
  cell : W.cell? ⟨g, k, none⟩ = some v
theorem Cel.next {W W' : World} {g k : Nat} {v : Value} (h : Cel W g k v) (hb : Below W.heap.size W W') : Cel W' g k v := ⟨Nat.lt_of_lt_of_le h.lt hb.size, (hb.cell (p := ⟨g, k, none⟩) h.lt).trans h.cell⟩
theorem Cel.drew {W : World} {g k : Nat} {v : Value} (h : Cel W g k v) : Cel W.drew g k v := h.next ((Below.refl _ _).drew)
theorem Cel.alloc {W : World} {g k : Nat} {v : Value} (h : Cel W g k v) (x : Obj) : Cel (W.alloc x) g k v := h.next ((Below.refl _ _).alloc (Nat.le_refl _) _)
/-- a row that holds the line's end, behind wr -/
structure Ten (wr W : World) (q : Nat) : Prop where
  le : wr.heap.size ≤ q
  row : Blk W q 5 [.int .u8 10]
theorem Ten.new {wr W : World} (h : wr.heap.size ≤ W.heap.size) : Ten wr (W.alloc (.cells #[.int .u8 10] 5)) W.heap.size := ⟨h, Blk.new W 5 [.int .u8 10]⟩
theorem Ten.newd {wr W : World} (h : wr.heap.size ≤ W.heap.size) : Ten wr (W.drew.alloc (.cells #[.int .u8 10] 5)) W.heap.size := Ten.new (W := W.drew) h
theorem Ten.drew {wr W : World} {q : Nat} (h : Ten wr W q) : Ten wr W.drew q := ⟨h.le, h.row⟩
theorem Ten.alloc {wr W : World} {q : Nat} (h : Ten wr W q) (x : Obj) : Ten wr (W.alloc x) q := ⟨h.le, h.row.alloc x⟩
theorem Ten.next {wr W W' : World} {q : Nat} (h : Ten wr W q) (hb : Below W.heap.size W W') : Ten wr W' q := ⟨h.le, h.row.below hb h.row.lt⟩
theorem Ten.turn {wr W W' : World} {q : Nat} {row : Option Nat} (h : Ten wr W q) (hg : W.grownBy W' row) (hn : ∀ k, row = some k → k < wr.heap.size) : Ten wr W' q := ⟨h.le, h.row.grown hg (fun e => by have := hn q e.symm; have := h.le; omega)⟩
theorem Ten.news {wr W : World} {q : Nat} (h : Ten wr W q) : ∀ j u, (cellsB [10])[j]? = some u → W.cell? ((⟨q, 0, none⟩ : Addr).add j) = some u := fun j u hu => by
  rw [Addr.add_lit, h.row.cell (0 + j), Nat.zero_add]; exact hu
set_option maxRecDepth 100000 in
set_option maxHeartbeats 16000000 in
theorem reftext_any (s : Scr) (hm : mayScr s = true) (ok : ScrOk s) (few : Few s) (pa : Option Addr) (pc : Nat) (w : World) (hA : ActsAt w pa s.acts) (henv : Env w) :
    Calls Tryz.prog 39 #[.agg (scrCells s (.slice pa s.acts.length pc)).toArray] w fun e w' => e = .returned (.string (scrText s)) ∧ Below w.heap.size w w' := by
  have hB := Blk.new w 63 (scrCells s (.slice pa s.acts.length pc))
  have hb : Below w.heap.size w (w.alloc (.cells (scrCells s (.slice pa s.acts.length pc)).toArray 63)) := (Below.refl _ w).alloc (Nat.le_refl _) _
  have HA := Lib.hid (hA.below hb)
  have HE := Lib.hid henv
  have hz2 : (lnB (scrLines s)).length ≤ 1400000 := few_len ok few
  have hlm : ∀ k, (lnB ((scrLines s).take k)).length ≤ 1400000 := fun k => by
    have := lnB_len ((scrLines s).take k) ((scrLines s).drop k)
    rw [List.take_append_drop] at this; omega
  have h1 : ∀ k, k < 5 → lnB ((scrLines s).take (k + 1)) = lnB ((scrLines s).take k) ++ (bs (setLine s.set k) ++ [10]) := fun k hk => by
    have e : (scrLines s)[k]? = some (setLine s.set k) := by
      match k, hk with
      | 0, _ => rfl
      | 1, _ => rfl
      | 2, _ => rfl
      | 3, _ => rfl
      | 4, _ => rfl
    rw [List.take_add_one, e]; exact lnB_snoc _ _
  have h2 : ∀ j a, s.acts[j]? = some a → lnB ((scrLines s).take (5 + (j + 1))) = lnB ((scrLines s).take (5 + j)) ++ (bs (actText a) ++ [10]) := fun j a h => by
    have e : (scrLines s)[5 + j]? = some (actText a) := by
      unfold scrLines
      rw [List.getElem?_append_right (by simp), List.length_map, List.length_range, Nat.add_sub_cancel_left, List.getElem?_map, h]; rfl
    rw [← Nat.add_assoc, List.take_add_one, e]; exact lnB_snoc _ _
  have h3 : lnB ((scrLines s).take (5 + s.acts.length)) = lnB (scrLines s) := by
    rw [List.take_of_length_le (by unfold scrLines; simp)]
  have hms : maySet s.set = true ∧ s.acts.all mayAct = true := by
    unfold mayScr at hm
    rwa [Bool.and_eq_true] at hm
  have hall : ∀ a ∈ s.acts, mayAct a = true ∧ ActOk a ∧ smallA a := fun a h => ⟨List.all_eq_true.1 hms.2 a h, ok.acts a h, few.small a h⟩
  have hso := ok.set
  have hal : s.acts.length ≤ 100000 := Nat.le_trans few.len (by decide)
  have H1 := Lib.hid h1; have H2 := Lib.hid h2; have H3 := Lib.hid h3; have HLM := Lib.hid hlm; have HSO := Lib.hid hso; have HALL := Lib.hid hall
  clear hm hz2 ok hlm h1 h2 h3 hso hall hms hA henv few
  have hst : scrText s = txt (lnB (scrLines s)) := rfl
  rw [hst]
  clear hst
  generalize hLT : (fun k => lnB ((scrLines s).take k)) = T
  have e1 : ∀ k, lnB ((scrLines s).take k) = T k := fun k => by rw [← hLT]
  simp only [e1] at H1 H2 H3 HLM
  have e0 : T 0 = [] := by rw [← e1]; rfl
  have E0 := Lib.hid e0
  clear e1 hLT e0
  rw [← H3.out]
  have hnum := fun W => numbers_any s.set W
  have HNUM := Lib.hid hnum
  have hcell := fun i (h : i < 5) => setL5_at s.set h
  have HCELL := Lib.hid hcell
  clear hnum hcell
  obtain ⟨⟨nodes, capacity, frames, quorum, delay⟩, acts⟩ := s
  simp only [scrCells, supV, supCells] at *
  have c0 := hB.cell 0; have c1 := hB.cell 1; have c2 := hB.cell 2; have c3 := hB.cell 3; have c4 := hB.cell 4; have c5 := hB.cell 5
  have HB := Lib.hid hB
  clear hB
  go_enter Tryz.func39, Tryz.ntmps39
  go_wp2_with (go_at_call 86; refine (HNUM.out _).mono ?_; rintro e w1 ⟨gN, rfl, hgN, hgB, hb1⟩)
  have hbel := hb.trans (hb1.mono hb.size)
  have HA1 := Lib.hid (HA.out.below hb1)
  have HB1 := Lib.hid (HB.out.below hb1 HB.out.lt)
  have HE1 := Lib.hid (HE.out.below hbel)
  have HGN := Lib.hid hgN
  have hgNl := hgN.lt
  have hsz1 : w.heap.size ≤ w1.heap.size := hbel.size
  clear c0 c1 c2 c3 c4 c5 hb1 HA HB HE hgN HNUM
  go_loopw [3, 5] (fun v i wr => ∃ k : Nat, k ≤ 5 ∧ i = .int .i64 k ∧ Hid (OwnB wr w1.heap.size v (T k)) ∧ Below w1.heap.size w1 wr) (fun _ i _ => 5 - (intOf i).toNat)
  case atStart => exact ⟨0, by omega, rfl, Lib.hid (by rw [E0.out]; exact OwnB.nil _ _), Below.refl _ _⟩
  case round =>
    obtain ⟨k, hk, rfl, HO, hbr⟩ := hrel
    by_cases hlt : k < 5
    · have hlt2 : (k : Int) < 5 := by omega
      obtain ⟨n, hn⟩ : ∃ n, setNs ⟨nodes, capacity, frames, quorum, delay⟩ k = n := ⟨_, rfl⟩
      have hnr := HSO.out k
      rw [hn] at hnr
      obtain ⟨n1, n2⟩ := hnr
      have hq : ∀ W, Below w1.heap.size w1 W → W.cell? ⟨gN, k, none⟩ = some (.int .i64 n) := fun W h => by
        rw [h.cell (p := ⟨gN, k, none⟩) hgNl, HGN.out.cell k, HCELL.out k hlt, hn]
      have HQ := Lib.hid hq
      have cN := hq wr hbr
      have hT := H1.out k hlt
      have hsl : setLine ⟨nodes, capacity, frames, quorum, delay⟩ k = joinS [setNm k, ito n] := by unfold setLine; rw [hn]
      rw [hsl, joinS_two] at hT
      have hTl := HLM.out (k + 1)
      have hTk : (T (k + 1)).length = (T k).length + ((setNm k).size + (Lib.itoa n).length + 2) := by
        rw [hT]
        simp only [List.length_append, List.length_cons, List.length_nil, bs_length, bs_ito']; omega
      have HT := Lib.hid hT
      have hsl2 := ito_size n1 n2
      rw [← bs_length, bs_ito'] at hsl2
      have hnm := setNm_size k
      have g9 : ¬ 9223372036854775807 < (setNm k).size + 1 + (Lib.itoa n).length := by omega
      have g7 : ¬ 9223372036854775807 < (setNm k).size + 1 := by omega
      have hcat : (setNm k ++ ⟨#[32]⟩ ++ ⟨(Lib.itoa n).toArray⟩ : ByteArray).data.toList = bs (setNm k) ++ 32 :: bs (ito n) := by rw [bs_ito']; simp
      have hz9 : (setNm k ++ ⟨#[32]⟩ ++ ⟨(Lib.itoa n).toArray⟩ : ByteArray).size ≤ 1000 := by
        rw [← bs_length, show bs (setNm k ++ ⟨#[32]⟩ ++ ⟨(Lib.itoa n).toArray⟩) = bs (setNm k) ++ 32 :: bs (ito n) from hcat]
        simp only [List.length_append, List.length_cons, bs_length, bs_ito']; omega
      have HCAT := Lib.hid hcat
      have hTk2 : (T k).length ≤ 1400000 := HLM.out k
      have hlen2 : (T k ++ (bs (setNm k) ++ 32 :: bs (ito n))).length ≤ 100000000 := by
        simp only [List.length_append, List.length_cons, bs_length, bs_ito']; omega
      have hitoa : ∀ W, Env W → Calls Tryz.prog 55 #[.int .i64 n] W fun e w' => ∃ v, e = .returned v ∧ (v = .string ⟨(Lib.itoa n).toArray⟩ ∧ Below W.heap.size W w') :=
        fun W h => (itoa_any n n1 n2 W h).mono fun _ _ ⟨he, hb⟩ => ⟨_, he, rfl, hb⟩
      have HIT := Lib.hid hitoa
      have hwd : ∀ W, Calls Tryz.prog 84 #[] W fun e w' => ∃ v, e = .returned v ∧ (∃ g, v = .slice (some ⟨g, 0, none⟩) 5 5 ∧ w'.cell? ⟨g, k, none⟩ = some (.string (setNm k)) ∧ W.heap.size ≤ g ∧ g < w'.heap.size ∧ Below W.heap.size W w') :=
        fun W => (words_x W).mono fun _ _ ⟨g, he, hB, hg, hb⟩ => ⟨_, he, g, rfl, by rw [hB.cell k]; exact setNms_at hlt, hg, hB.lt, hb⟩
      have HWD := Lib.hid hwd
      have hwl := hbr.size
      clear hq hn hT hsl hcat hitoa hwd hTl hTk
      have HR0 : RT w1 wr u3 (T k) := ⟨hbr, HO.out⟩
      go_wp2_with fail
      have hsz0 : wr.heap.size ≤ wr.heap.size := Nat.le_refl _
      have hgN0 : gN < wr.heap.size := Nat.lt_of_lt_of_le hgNl hbr.size
      have hneN0 : wr.heap.size ≠ gN := by omega
      have hneN1 : ¬ gN = wr.heap.size := by omega
      go_region_law (first
        | (refine step_call0 rfl 84 _ rfl (enters_of Tryz.func84 (by kernel_rfl) rfl) (HWD.out _) ?_
           rintro vh wh ⟨g, rfl, hgc, hgl, hgs, hbH⟩
           have HRW : RT w1 wh u3 (T k) := RT.next (v := u3) (L := T k) (by repeat (first | with_reducible exact HRW | with_reducible exact HRI | with_reducible exact HR0 | with_reducible refine RT.drew ?_ | with_reducible refine RT.alloc ?_ _)) hbH
           have GW : Cel wh g k (.string (setNm k)) := ⟨hgs, hgc⟩
           have cNw := HQ.out wh HRW.bel
           have hgNw : gN < wh.heap.size := Nat.lt_of_lt_of_le hgNl HRW.bel.size
           have hszW : wr.heap.size ≤ wh.heap.size := by have := hbH.size; (try simp at this); omega
           try (refine (show Ten wr wh wr.heap.size → _ from fun t10W => ?_) ?_; rotate_left; focus (refine Ten.next ?_ hbH; (repeat (first | with_reducible exact t10A | with_reducible exact t10I | with_reducible exact t10W | with_reducible exact Ten.newd hsz0 | with_reducible exact Ten.new hsz0 | with_reducible exact Ten.new hszW | with_reducible exact Ten.new hszI | with_reducible exact Ten.new hsz2 | with_reducible refine Ten.drew ?_ | with_reducible refine Ten.alloc ?_ _)); done)))
        | (refine step_call1 rfl 55 (.tmp 25) _ rfl (enters_of Tryz.func55 (by kernel_rfl) rfl) (.int .i64 n) (by simp [Act.eval]; try rfl) (HIT.out _ (HE1.out.below (RT.bel (v := u3) (L := T k) (by repeat (first | with_reducible exact HRW | with_reducible exact HRI | with_reducible exact HR0 | with_reducible refine RT.drew ?_ | with_reducible refine RT.alloc ?_ _))))) ?_
           rintro vi wi ⟨rfl, hbI⟩
           have HRI : RT w1 wi u3 (T k) := RT.next (v := u3) (L := T k) (by repeat (first | with_reducible exact HRW | with_reducible exact HRI | with_reducible exact HR0 | with_reducible refine RT.drew ?_ | with_reducible refine RT.alloc ?_ _)) hbI
           have cNi := HQ.out wi HRI.bel
           have hgNi : gN < wi.heap.size := Nat.lt_of_lt_of_le hgNl HRI.bel.size
           have hszI : wr.heap.size ≤ wi.heap.size := by have := hbI.size; (try simp at this); omega
           try (refine (show Ten wr wi wr.heap.size → _ from fun t10I => ?_) ?_; rotate_left; focus (refine Ten.next ?_ hbI; (repeat (first | with_reducible exact t10A | with_reducible exact t10I | with_reducible exact t10W | with_reducible exact Ten.newd hsz0 | with_reducible exact Ten.new hsz0 | with_reducible exact Ten.new hszW | with_reducible exact Ten.new hszI | with_reducible exact Ten.new hsz2 | with_reducible refine Ten.drew ?_ | with_reducible refine Ten.alloc ?_ _)); done))
           try (refine (show Ten wr wi wh.heap.size → _ from fun t10I => ?_) ?_; rotate_left; focus (refine Ten.next ?_ hbI; (repeat (first | with_reducible exact t10A | with_reducible exact t10I | with_reducible exact t10W | with_reducible exact Ten.newd hsz0 | with_reducible exact Ten.new hsz0 | with_reducible exact Ten.new hszW | with_reducible exact Ten.new hszI | with_reducible exact Ten.new hsz2 | with_reducible refine Ten.drew ?_ | with_reducible refine Ten.alloc ?_ _)); done))
           try have GI : Cel wi g k (.string (setNm k)) := Cel.next (by repeat (first | with_reducible exact GW | with_reducible refine Cel.drew ?_ | with_reducible refine Cel.alloc ?_ _)) hbI
           try have hgci := GI.cell
           try have hgsi := GI.lt)
        | (refine stepL_append_bs rfl (.tmp 16) (.tmp 27) rfl w1.heap.size u3 (T k) (setNm k ++ ⟨#[32]⟩ ++ ⟨(Lib.itoa n).toArray⟩) (by simp [Act.eval, Act.put]) (by simp [Act.eval, Act.put]) (RT.own (by repeat (first | with_reducible exact HRW | with_reducible exact HRI | with_reducible exact HR0 | with_reducible refine RT.drew ?_ | with_reducible refine RT.alloc ?_ _))) (by omega) (RT.bel (v := u3) (L := T k) (by repeat (first | with_reducible exact HRW | with_reducible exact HRI | with_reducible exact HR0 | with_reducible refine RT.drew ?_ | with_reducible refine RT.alloc ?_ _))).size (by omega) ?_
           intro v2 w2 ho2 hg2
           rw [HCAT.out] at ho2
           have HR2 : RT w1 w2 v2 (T k ++ (bs (setNm k) ++ 32 :: bs (ito n))) := RT.turn (v := u3) (L := T k) (by repeat (first | with_reducible exact HRW | with_reducible exact HRI | with_reducible exact HR0 | with_reducible refine RT.drew ?_ | with_reducible refine RT.alloc ?_ _)) hg2 ho2
           have hsz2 : wr.heap.size ≤ w2.heap.size := by have := hg2.size; (try simp at this); omega
           try (refine (show Ten wr w2 wr.heap.size → _ from fun t10A => ?_) ?_; rotate_left; focus (refine Ten.turn ?_ hg2 (fun j e => (World.ownsRow.lt HO.out j e).2); (repeat (first | with_reducible exact t10A | with_reducible exact t10I | with_reducible exact t10W | with_reducible exact Ten.newd hsz0 | with_reducible exact Ten.new hsz0 | with_reducible exact Ten.new hszW | with_reducible exact Ten.new hszI | with_reducible exact Ten.new hsz2 | with_reducible refine Ten.drew ?_ | with_reducible refine Ten.alloc ?_ _)); done))
           try (refine (show Ten wr w2 wh.heap.size → _ from fun t10A => ?_) ?_; rotate_left; focus (refine Ten.turn ?_ hg2 (fun j e => (World.ownsRow.lt HO.out j e).2); (repeat (first | with_reducible exact t10A | with_reducible exact t10I | with_reducible exact t10W | with_reducible exact Ten.newd hsz0 | with_reducible exact Ten.new hsz0 | with_reducible exact Ten.new hszW | with_reducible exact Ten.new hszI | with_reducible exact Ten.new hsz2 | with_reducible refine Ten.drew ?_ | with_reducible refine Ten.alloc ?_ _)); done))
           try (refine (show Ten wr w2 wi.heap.size → _ from fun t10A => ?_) ?_; rotate_left; focus (refine Ten.turn ?_ hg2 (fun j e => (World.ownsRow.lt HO.out j e).2); (repeat (first | with_reducible exact t10A | with_reducible exact t10I | with_reducible exact t10W | with_reducible exact Ten.newd hsz0 | with_reducible exact Ten.new hsz0 | with_reducible exact Ten.new hszW | with_reducible exact Ten.new hszI | with_reducible exact Ten.new hsz2 | with_reducible refine Ten.drew ?_ | with_reducible refine Ten.alloc ?_ _)); done)))
        | (refine stepL_append_b rfl (.tmp 28) (.tmp 29) rfl w1.heap.size v2 (T k ++ (bs (setNm k) ++ 32 :: bs (ito n))) ?_ 1 1 [10] (by simp [Act.eval]) ?_ (RT.own (by repeat (first | with_reducible exact HR2 | with_reducible refine RT.drew ?_ | with_reducible refine RT.alloc ?_ _))) hlen2 (RT.bel (v := v2) (L := T k ++ (bs (setNm k) ++ 32 :: bs (ito n))) (by repeat (first | with_reducible exact HR2 | with_reducible refine RT.drew ?_ | with_reducible refine RT.alloc ?_ _))).size rfl (by omega) ?_ ?_
           rotate_left
           focus (simp [Act.eval] <;> rfl)
           focus (refine Ten.news (wr := wr) ?_; (repeat (first | with_reducible exact t10A | with_reducible exact t10I | with_reducible exact t10W | with_reducible exact Ten.newd hsz0 | with_reducible exact Ten.new hsz0 | with_reducible exact Ten.new hszW | with_reducible exact Ten.new hszI | with_reducible exact Ten.new hsz2 | with_reducible refine Ten.drew ?_ | with_reducible refine Ten.alloc ?_ _)); done)
           intro v3 w3 ho3 hg3
           have HR3 : RT w1 w3 v3 ((T k ++ (bs (setNm k) ++ 32 :: bs (ito n))) ++ [10]) := by
             refine RT.turn (L := T k ++ (bs (setNm k) ++ 32 :: bs (ito n))) (v := v2) ?_ hg3 ho3
             repeat (first | with_reducible exact HR2 | with_reducible refine RT.drew ?_ | with_reducible refine RT.alloc ?_ _)))
      all_goals
        go_wp2
        go_roundw
        case rel => exact ⟨k + 1, by omega, by go_num, Lib.hid (by rw [HT.out]; have := HR3.own; rw [List.append_assoc, List.append_assoc] at this; simpa using this), HR3.bel⟩
        case measure => simp [intOf]; omega
    · obtain rfl : k = 5 := by omega
      rw [show ((5 : Nat) : Int) = 5 from rfl]
      have e5 : _ = some (Value.slice pa acts.length pc) := (hbr.cell (p := ⟨w.heap.size, 5, none⟩) HB1.out.lt).trans (HB1.out.cell 5)
      go_wp2_with fail
      clear e5
      go_loopw [3, 6] (fun v i wx => ∃ k : Nat, k ≤ acts.length ∧ i = .int .i64 k ∧ Hid (OwnB wx w1.heap.size v (T (5 + k))) ∧ Below w1.heap.size w1 wx) (fun _ i _ => acts.length - (intOf i).toNat)
      case atStart => exact ⟨0, Nat.zero_le _, rfl, HO, hbr⟩
      case round =>
        clear HO hbr
        obtain ⟨k, hk, rfl, HO, hbr⟩ := hrel
        have e5 : _ = some (Value.slice pa acts.length pc) := (hbr.cell (p := ⟨w.heap.size, 5, none⟩) HB1.out.lt).trans (HB1.out.cell 5)
        by_cases hlt : k < acts.length
        · have hne : acts ≠ [] := fun e => by rw [e] at hlt; simp at hlt
          obtain ⟨a, ha⟩ : ∃ a, acts[k]? = some a := ⟨_, List.getElem?_eq_getElem hlt⟩
          have HAr := Lib.hid (HA1.out.below hbr)
          have HEr := Lib.hid (HE1.out.below hbr)
          obtain ⟨g, o, rfl, hg, hc⟩ := HAr.out hne
          obtain ⟨pa2, pc2, hr, hp⟩ := hc k a ha
          obtain ⟨hma, hoa, hsa⟩ := HALL.out a (List.mem_of_getElem? ha)
          have HR := Lib.hid hr
          have HT := Lib.hid (H2.out k a ha)
          have hTl := HLM.out (5 + (k + 1))
          have hTk : (T (5 + (k + 1))).length = (T (5 + k)).length + ((actText a).size + 1) := by
            rw [HT.out]
            simp only [List.length_append, List.length_cons, List.length_nil, bs_length]
          have hcall : ∀ W, Env W → PkAt W pa2 a.picks → Calls Tryz.prog 29 #[.agg (actCells a (.slice pa2 a.picks.length pc2)).toArray] W fun e w' => e = .returned (.string (actText a)) ∧ Below W.heap.size W w' := fun W h1 h2 =>
            rtext_any a hoa hsa hma pa2 pc2 W h1 h2
          have HCL := Lib.hid hcall
          have HPK := Lib.hid hp
          clear hc ha hr hp hne hcall hma hoa hsa
          generalize actText a = t at *
          have hlt2 : (k : Int) < (acts.length : Int) := by omega
          have hTn : (T (5 + k)).length ≤ 100000000 := by omega
          have hTm : (T (5 + k) ++ bs t).length ≤ 100000000 := by rw [List.length_append, bs_length]; omega
          have HTS : t.size ≤ 100000000 := by omega
          generalize hT1 : T (5 + (k + 1)) = T1 at *
          have HT1 := Lib.hid hT1
          clear hT1
          go_wp2_with (first
            | (refine wpList_load_mid rfl 39 (.tmp 42) rfl g (o + k * 12) rfl (actCells a (.slice pa2 a.picks.length pc2)) _ HR.out Tryz.underlying39 rfl scr_info ?_)
            | (go_at_call 29; refine (HCL.out _ HEr.out HPK.out).mono ?_; rintro e w4 ⟨rfl, hb4⟩; have HO4 : OwnB w4 w1.heap.size u3 (T (5 + k)) := HO.out.below hb4; have HX4 := hbr.trans (hb4.mono hbr.size))
            | (at_builtin; refine wpListL_append_bs rfl (.tmp 38) (.tmp 44) rfl w1.heap.size u3 (T (5 + k)) t rfl rfl HO4 hTn HX4.size HTS ?_; intro v5 w5 ho5 hg5; have HX5 := HX4.grown hg5 HX4.size (fun j e => HO4.size j e))
            | (at_builtin; refine wpListL_append_b rfl (.tmp 45) (.tmp 46) rfl w1.heap.size v5 (T (5 + k) ++ bs t) ⟨w5.heap.size, 0, none⟩ 1 1 [10] rfl rfl (OwnB.alloc ho5 _) hTm (HX5.alloc HX5.size _).size rfl (by omega) (by intro j u hu; exact news_lit w5 [10] j u hu) ?_; intro v6 w6 ho6 hg6; have HX6 := (HX5.alloc HX5.size _).grown hg6 (HX5.alloc HX5.size _).size (fun j e => ho5.size j e)))
          go_roundw
          case rel => exact ⟨k + 1, by omega, by go_num, Lib.hid (by rw [HT1.out, HT.out, ← List.append_assoc]; exact ho6), HX6⟩
          case measure => simp [intOf]; omega
        · obtain rfl : k = acts.length := by omega
          have hlt2 : ¬ (acts.length : Int) < (acts.length : Int) := by omega
          have hcv := conv_own HO.out
          go_wp2_with fail
          go_ret
          exact ⟨rfl, hbel.trans (hbr.mono hsz1)⟩
end Go.Proofs.YtgplaeopcejmoaaGreatDoor
