/- The walk of the document's Parse. -/
import Derived.Test.YtgplaeopcejmoaaGreatDoorWeavet
import Derived.Test.YtgplaeopcejmoaaGreatDoorSetting
import Derived.Test.YtgplaeopcejmoaaGreatDoorRaofw
import Derived.Deep.OwnRows
namespace Go.Proofs.YtgplaeopcejmoaaGreatDoor
open Go.RowKit Go.Shelf

theorem wpList_append_a {w : World} {ops : Array Oper} {rest : List Oper} {o : Oper} {a : Act} {Q : Exit → Act → World → Prop} (hgd : o.guard = none) (s x : Operand)
    (ho : o.op = .call { callee := .builtin .append, args := #[s, x], argTypes := #[61, 61] }) (B base : Nat) (v : Value) (xs : List ArV) (ad : Addr) (m c : Nat) (news : List ArV) (hs : a.eval s = v) (hx : a.eval x = .slice (some ad) m c)
    (h : AcRow w B base v xs) (hn : xs.length ≤ 1000000) (hbase : base ≤ w.heap.size) (hm : m = news.length) (hn2 : m ≤ 1000000)
    (hnews : ∀ j u, (cellsA news)[j]? = some u → w.cell? (ad.add j) = some u) (hpk : ∀ x ∈ news, PkApart w B base v.ownBlock x)
    (hk : ∀ v' w', AcRow w' B base v' (xs ++ news) → w.grownBy w' v.ownBlock → wpList Tryz.prog ops Q rest (a.put o.dst v') w') : wpList Tryz.prog ops Q (o :: rest) a w := by
  obtain ⟨v', w', hr, h1, h2⟩ := append_a w B base v xs h hn hbase ad m c news hm hn2 hnews hpk o.type
  exact wpList_two hgd .append s x #[61, 61] ho v _ hs hx hr (hk v' w' h1 h2)
/-- the document's Parse under way: its variables -/
structure RPg (C : List Bs) (w W : World) (gL gN b k : Nat) (s1 s2 : Sup) (v : Value) (l : List ArV) : Prop where
  below : Below w.heap.size w W
  res : Blk W w.heap.size 63 (scrCells scrZ (.slice none 0 0))
  row : StrRow W gL (C.map txt)
  nums : Blk W gN 3 (setL5 s2)
  st : PSt 0 (b + 2) W b s1 v l
  gNb : gN = b + 1
  bw : w.heap.size < b
  gLb : w.heap.size < gL ∧ gL < b
  len : l.length ≤ k
theorem RPg.next {C : List Bs} {w W W' : World} {gL gN b k : Nat} {s1 s2 : Sup} {v : Value} {l : List ArV} (h : RPg C w W gL gN b k s1 s2 v l) (hb : Below W.heap.size W W') : RPg C w W' gL gN b k s1 s2 v l :=
  ⟨h.below.trans (hb.mono h.below.size), h.res.below hb h.res.lt, h.row.below hb, h.nums.below hb h.nums.lt, h.st.below hb, h.gNb, h.bw, h.gLb, h.len⟩
theorem setL5_set (s : Sup) (k : Nat) (hk : k < 5) (n : Int) : (setL5 s).set k (.int .i64 n) = setL5 (setPut s k n) := by
  match k, hk with
  | 0, _ => rfl
  | 1, _ => rfl
  | 2, _ => rfl
  | 3, _ => rfl
  | 4, _ => rfl
theorem StrRow.other {W : World} {g : Nat} {l : List ByteArray} (h : StrRow W g l) {W' : World} {q : Nat} (hg : W.grownBy W' (some q)) (hq : g ≠ q) : StrRow W' g l := ⟨Nat.lt_of_lt_of_le h.lt hg.size, fun j x hx => by
  rw [World.cell?_of_block (a := ⟨g, j, none⟩) (hg.block g h.lt (fun e => by injection e with e; exact hq e))]
  exact h.cell j x hx⟩
theorem RPg.num {C : List Bs} {w W : World} {gL gN b k : Nat} {s1 s2 : Sup} {v : Value} {l : List ArV} (h : RPg C w W gL gN b k s1 s2 v l) (hk : k < 5) (n : Int) : RPg C w (W.setCell ⟨gN, k, none⟩ (.int .i64 n)) gL gN b k s1 (setPut s2 k n) v l := by
  have hg := grown_setCell W gN k (.int .i64 n)
  have h1 := h.gNb
  have h2 := h.bw
  have h3 := h.gLb
  refine ⟨h.below.grown hg h.below.size (fun i e => by injection e with e; omega), h.res.grown hg (fun e => by injection e with e; omega), h.row.other hg (by omega), ?_, ?_, h.gNb, h.bw, h.gLb, h.len⟩
  · rw [← setL5_set s2 k hk n]
    exact h.nums.setCell k _ (by simp [setL5]; omega)
  · exact ⟨h.st.box.grown hg (fun e => by injection e with e; omega), h.st.row.turn hg (fun i e => by injection e with e; omega), h.st.bB, h.st.bb, Nat.le_trans h.st.sz hg.size⟩
theorem RPg.setup {C : List Bs} {w W W' : World} {gL gN b k : Nat} {s1 s2 : Sup} {v : Value} {l : List ArV} (h : RPg C w W gL gN b k s1 s2 v l)
    (hW : W' = (((((W.setCell ⟨b, 0, none⟩ (.int .i64 s2.nodes)).setCell ⟨b, 1, none⟩ (.int .i64 s2.capacity)).setCell ⟨b, 2, none⟩ (.int .i64 s2.frames)).setCell ⟨b, 3, none⟩ (.int .i64 s2.quorum)).setCell ⟨b, 4, none⟩ (.int .i64 s2.delay))) : RPg C w W' gL gN b k s2 s2 v l := by
  have h1 := h.gNb
  have h2 := h.bw
  have h3 := h.gLb
  have hg : W.grownBy W' (some b) := by
    rw [hW]
    exact grownBy_trans (grownBy_trans (grownBy_trans (grownBy_trans (grown_setCell _ _ _ _) (grown_setCell _ _ _ _)) (grown_setCell _ _ _ _)) (grown_setCell _ _ _ _)) (grown_setCell _ _ _ _)
  refine ⟨h.below.grown hg h.below.size (fun i e => by injection e with e; omega), h.res.grown hg (fun e => by injection e with e; omega), h.row.other hg (by omega), h.nums.grown hg (fun e => by injection e with e; omega), ?_, h.gNb, h.bw, h.gLb, h.len⟩
  refine ⟨?_, h.st.row.turn hg (fun i e => by injection e with e; omega), h.st.bB, h.st.bb, Nat.le_trans h.st.sz hg.size⟩
  rw [hW]
  exact ((((h.st.box.setCell 0 _ (by simp [scrCells])).setCell 1 _ (by simp [scrCells])).setCell 2 _ (by simp [scrCells])).setCell 3 _ (by simp [scrCells])).setCell 4 _ (by simp [scrCells])
theorem RPg.up {C : List Bs} {w W : World} {gL gN b k k2 : Nat} {s1 s2 : Sup} {v : Value} {l : List ArV} (h : RPg C w W gL gN b k s1 s2 v l) (hk : k ≤ k2) : RPg C w W gL gN b k2 s1 s2 v l :=
  ⟨h.below, h.res, h.row, h.nums, h.st, h.gNb, h.bw, h.gLb, Nat.le_trans h.len hk⟩
theorem RPg.cells {C : List Bs} {w W : World} {gL gN b k : Nat} {sn sc sf sq sd : Int} {s2 : Sup} {v : Value} {l : List ArV} (h : RPg C w W gL gN b k ⟨sn, sc, sf, sq, sd⟩ s2 v l) : W.cell? ⟨b, 0, none⟩ = some (.int .i64 sn) ∧ W.cell? ⟨b, 1, none⟩ = some (.int .i64 sc) ∧ W.cell? ⟨b, 2, none⟩ = some (.int .i64 sf) ∧ W.cell? ⟨b, 3, none⟩ = some (.int .i64 sq) ∧ W.cell? ⟨b, 4, none⟩ = some (.int .i64 sd) ∧ W.cell? ⟨b, 5, none⟩ = some v :=
  ⟨h.st.box.cell 0, h.st.box.cell 1, h.st.box.cell 2, h.st.box.cell 3, h.st.box.cell 4, h.st.box.cell 5⟩
theorem RPg.act {C : List Bs} {w W W3 : World} {gL gN b k : Nat} {s1 s2 : Sup} {v v3 : Value} {l l3 : List ArV} {row : Option Nat} (h : RPg C w W gL gN b k s1 s2 v l) (hg : W.grownBy W3 row) (hr : ∀ i, row = some i → b + 2 ≤ i)
    (ho : AcRow W3 0 (b + 2) v3 l3) (hl : l3.length ≤ k + 1) : RPg C w (W3.setCell ⟨b, 5, none⟩ v3) gL gN b (k + 1) s1 s2 v3 l3 := by
  have h1 := h.gNb
  have h2 := h.bw
  have h3 := h.gLb
  have h4 := h.st.sz
  have hb := h.below.size
  have hz := h.row.lt
  have g2 := grown_setCell W3 b 5 v3
  have hn : ∀ q, q < b + 2 → some q ≠ row := fun q hq e => by have := hr q e.symm; omega
  have hs3 : ∀ q, q < b + 2 → q < W3.heap.size := fun q hq => by have := hg.size; omega
  refine ⟨(h.below.grown hg hb (fun i e => by have := hr i e; omega)).grown g2 (Nat.le_trans hb hg.size) (fun i e => by injection e with e; omega), (h.res.grown hg (hn _ (by omega))).grown g2 (fun e => by injection e with e; omega), ?_, (h.nums.grown hg (hn _ (by omega))).grown g2 (fun e => by injection e with e; omega), ⟨?_, ho.turn g2 (fun i e => by injection e with e; omega), h.st.bB, h.st.bb, Nat.le_trans h4 (Nat.le_trans hg.size g2.size)⟩, h.gNb, h.bw, h.gLb, hl⟩
  · refine StrRow.other (W := W3) ⟨hs3 _ (by omega), fun j x hx => ?_⟩ g2 (by omega)
    rw [World.cell?_of_block (a := ⟨gL, j, none⟩) (hg.block gL hz (hn _ (by omega)))]
    exact h.row.cell j x hx
  · exact (h.st.box.grown hg (hn _ (by omega))).setCell 5 _ (by simp [scrCells])
/-- .. and what is read yet -/
structure RPs (t : ByteArray) (C : List Bs) (w W : World) (gL gN b k : Nat) (s : Scr) (v : Value) (l : List ArV) : Prop where
  g : RPg C w W gL gN b k s.set s.set v l
  acts : s.acts = l.map (·.1)
  left : parseT t = parseB k s (C.drop k)
theorem stepP_no {k : Nat} (hk : k < 5) {s : Scr} {x : ByteArray} (h : setNum k x = none) : stepP k s x = none := by
  unfold stepP
  rw [if_pos hk, h]
theorem cuts_le {c : UInt8} : ∀ {l : Bs} {x : Bs}, x ∈ cutsL c l → x.length ≤ l.length
  | [], x, h => by
    simp only [cutsL, List.mem_singleton] at h
    subst h; exact Nat.le_refl _
  | y :: l, x, h => by
    rcases first_at c (y :: l) with hno | ⟨p, r, hpr, hno⟩
    · rw [cutsL_end c _ hno, List.mem_singleton] at h
      subst h; exact Nat.le_refl _
    · rw [hpr] at h ⊢
      rw [cutsL_at c p r hno] at h
      rw [List.length_append, List.length_cons]
      rcases List.mem_cons.1 h with rfl | h
      · omega
      · have := congrArg List.length hpr
        rw [List.length_append, List.length_cons, List.length_cons] at this
        have hlt : r.length < (y :: l).length := by rw [List.length_cons]; omega
        have := cuts_le h; omega
termination_by l => l.length
theorem parseB_last {n : Nat} {s : Scr} {x : Bs} : parseB n s [x] = if x = [] ∧ 5 ≤ n then .ok s else .error n := by rw [parseB]
theorem drop_at {C : List Bs} {k : Nat} {x : Bs} (h : C[k]? = some x) : C.drop k = x :: C.drop (k + 1) := by
  obtain ⟨hl, hx⟩ := List.getElem?_eq_some_iff.1 h
  rw [List.drop_eq_getElem_cons hl, hx]

set_option maxRecDepth 100000 in
set_option maxHeartbeats 8000000 in
theorem refparse_any (t : ByteArray) (ht : t.size ≤ 60000) (w : World) (henv : Env w) :
    Calls Tryz.prog 37 #[.string t] w fun e w' => parseR (parseT t) e w' ∧ Below w.heap.size w w' := by
  obtain ⟨C, hC⟩ : ∃ C, cutsL 10 (bs t) = C := ⟨_, rfl⟩
  have hCl : C.length ≤ t.size + 1 := by rw [← hC, ← bs_length]; exact cutsL_len 10 (bs t)
  have hCs : ∀ c ∈ C, c.length ≤ 60000 := fun c hc => by
    rw [← hC] at hc
    have := cuts_le hc
    rw [bs_length] at this; omega
  obtain ⟨n, hn⟩ : ∃ n, C.length = n + 1 := ⟨C.length - 1, by have := List.length_pos_iff.2 (hC ▸ cutsL_ne 10 (bs t) : C ≠ []); omega⟩
  obtain ⟨last, hlast⟩ : ∃ x, C[n]? = some x := ⟨_, List.getElem?_eq_getElem (by omega)⟩
  have hsp : ∀ W, Calls Tryz.prog 24 #[.string t, .int .u8 10] W fun e w' => (∃ g c, e = .returned (.slice (some ⟨g, 0, none⟩) (n + 1) c) ∧ n + 1 ≤ c ∧ W.heap.size ≤ g ∧ StrRow w' g (C.map txt)) ∧ Below W.heap.size W w' := fun W =>
    (split_any t 10 (by omega) W).mono fun e w' ⟨⟨v, he, hv⟩, hb⟩ => by
      have e1 : splitT 10 t = C.map txt := by unfold splitT; rw [hC]
      rw [e1] at hv
      obtain ⟨g, c, rfl, hc, hg, hr⟩ := hv.rowAt (by rw [← List.length_pos_iff, List.length_map]; omega)
      rw [List.length_map, hn] at hc he
      exact ⟨⟨g, c, he, hc, hg, hr⟩, hb⟩
  have hn2 : n ≤ 60000 := by omega
  have hleft : parseT t = parseB 0 scrZ (C.drop 0) := by unfold parseT; rw [hC]; rfl
  have h0 : ¬ (4194304 : Int) < (t.size : Int) := by omega
  have HSP := Lib.hid hsp; have HE := Lib.hid henv; have HL := Lib.hid hlast; have HCS := Lib.hid hCs; have HLE := Lib.hid hleft; have HN := Lib.hid hn
  clear hsp henv hlast hCs hleft hC hCl hn ht
  have hmk : ∀ W, (Instr.makeSlice 37 (.int .i64 5) (.int .i64 5)).run Tryz.prog W = .ok (.slice (some ⟨W.heap.size, 0, none⟩) 5 5) (W.alloc (.cells #[.int .i64 0, .int .i64 0, .int .i64 0, .int .i64 0, .int .i64 0] 3)) := fun W => by
    have h := run_make_row' (P := Tryz.prog) 37 3 (.int .i64 0) 8 Tryz.underlying37 infoInt rfl .i64 .i64 5 (by decide) (by decide) W
    rw [show madeCells #[Value.int .i64 0] 5 = #[.int .i64 0, .int .i64 0, .int .i64 0, .int .i64 0, .int .i64 0] from by kernel_rfl] at h
    exact h
  have hR0 := Blk.new w 63 (scrCells scrZ (.slice none 0 0))
  have hb0 : Below w.heap.size w (w.alloc (.cells (scrCells scrZ (.slice none 0 0)).toArray 63)) := (Below.refl _ _).alloc (Nat.le_refl _) _
  go_enter Tryz.func37, Tryz.ntmps37
  go_wp2_with (go_at_call 24; refine (HSP.out _).mono ?_; rintro e w1 ⟨⟨gL, cL, rfl, hcL, hgL, hrL⟩, hb1⟩; have cl := hrL.cell n _ (by rw [List.getElem?_map, HL.out]; rfl))
  have h0 : Hid (RPs t C w ((w1.alloc (.cells #[.int .i64 0, .int .i64 0, .int .i64 0, .int .i64 0, .int .i64 0, .slice none 0 0] 63)).alloc (.cells #[.int .i64 0, .int .i64 0, .int .i64 0, .int .i64 0, .int .i64 0] 3)) gL (w1.heap.size + 1) w1.heap.size 0 scrZ (.slice none 0 0) []) := by
    have hz := hb1.size
    simp only [World.size_alloc] at hz hgL
    have h2 := ((Below.refl w1.heap.size w1).alloc (Nat.le_refl _) (.cells #[.int .i64 0, .int .i64 0, .int .i64 0, .int .i64 0, .int .i64 0, .slice none 0 0] 63)).alloc (by simp) (.cells #[.int .i64 0, .int .i64 0, .int .i64 0, .int .i64 0, .int .i64 0] 3)
    have h3 := (hR0.below hb1 hR0.lt).below h2 (by omega)
    have h4 := Blk.new (w1.alloc (.cells #[.int .i64 0, .int .i64 0, .int .i64 0, .int .i64 0, .int .i64 0, .slice none 0 0] 63)) 3 [.int .i64 0, .int .i64 0, .int .i64 0, .int .i64 0, .int .i64 0]
    rw [World.size_alloc] at h4
    have h5 := (Blk.new w1 63 [.int .i64 0, .int .i64 0, .int .i64 0, .int .i64 0, .int .i64 0, .slice none 0 0]).alloc (.cells #[.int .i64 0, .int .i64 0, .int .i64 0, .int .i64 0, .int .i64 0] 3)
    exact Lib.hid ⟨⟨(hb0.trans (hb1.mono (by simp))).trans (h2.mono (by omega)), h3, hrL.below h2, h4, ⟨h5, AcRow.nil _ _ _, Nat.zero_le _, by omega, by simp⟩, rfl, by omega, ⟨by omega, hrL.lt⟩, by simp⟩, rfl, HLE.out⟩
  have hcL0 : ¬ cL = 0 := by omega
  clear hmk hR0 hb0 hb1 hgL hrL cl HSP HLE
  go_loopw [9] (fun i wr => ∃ (k : Nat) (s : Scr) (v : Value) (l : List ArV), i = .int .i64 k ∧ k ≤ n ∧ Hid (RPs t C w wr gL (w1.heap.size + 1) w1.heap.size k s v l)) (fun i _ => n - (intOf i).toNat)
  case atStart => exact ⟨0, scrZ, _, [], rfl, Nat.zero_le _, h0⟩
  case round =>
    clear h0
    obtain ⟨k, s, v, l, rfl, hk, HR⟩ := hrel
    by_cases hlt : k < n
    · have hlt2 : (k : Int) < (n : Int) := by omega
      obtain ⟨x, hx⟩ : ∃ x, C[k]? = some x := ⟨_, List.getElem?_eq_getElem (by have := HN.out; omega)⟩
      have hxs := HCS.out x (List.mem_of_getElem? hx)
      have hleft := HR.out.left
      rw [drop_at hx] at hleft
      have hne : C.drop (k + 1) ≠ [] := by
        rw [← List.length_pos_iff, List.length_drop, HN.out]; omega
      have cx := HR.out.g.row.cell k (txt x) (by rw [List.getElem?_map, hx]; rfl)
      have hts : (txt x).size ≤ 60000 := by rw [txt_size]; exact hxs
      have HLF := Lib.hid hleft
      have HNE := Lib.hid hne
      have HXK := Lib.hid hx
      clear hleft hne hx hxs
      by_cases hk5 : k < 5
      · have hk52 : (k : Int) < 5 := by omega
        have hset : ∀ W, Env W → Calls Tryz.prog 83 #[.string (txt x), .string (setNm k)] W fun e w' => (∃ v ok, e = .returned (.tuple #[.int .i64 v, .bool ok]) ∧ setNum k (txt x) = if ok then some v else none) ∧ Below W.heap.size W w' := fun W hE =>
          (setting_any k (txt x) (by omega) W hE).mono fun e w' ⟨h1, h2⟩ => ⟨by
            rcases h1 with ⟨v, h3, h4⟩ | ⟨h3, v, h4⟩
            · exact ⟨v, true, h4, h3⟩
            · exact ⟨v, false, h4, h3⟩, h2⟩
        have HSET := Lib.hid hset
        have hgl := HR.out.g.gLb
        clear hset
        go_wp2_with fail
        go_region_with (first
          | (go_at_call 84; refine (words_x _).mono ?_; rintro e w5 ⟨gw, rfl, hw, hgw, hb5⟩; (try replace hb5 := below_undrew hb5); have cw : w5.cell? ⟨gw, k, none⟩ = some (.string (setNm k)) := (by rw [hw.cell k]; exact setNms_at hk5); have R5 := Lib.hid (HR.out.g.next hb5); have cx5 := R5.out.row.cell k (txt x) (by rw [List.getElem?_map, HXK.out]; rfl); clear hw hgw)
          | (go_at_call 83; refine (HSET.out _ (HE.out.below R5.out.below)).mono ?_; rintro e w6 ⟨⟨nv, ok, rfl, hnv⟩, hb6⟩; have R6 := Lib.hid (R5.out.next hb6); have HNV := Lib.hid hnv; have cN6 : w6.cell? ⟨w1.heap.size + 1, k, none⟩ = some (.int .i64 (setNs s.set k)) := (by rw [R6.out.nums.cell k]; exact setL5_at s.set hk5); have fN6 := R6.out.nums.frozen k; clear hnv hb6 R5 cx5 cw))
        all_goals
          obtain ⟨⟨sn, sc, sf, sq, sd⟩, hs2⟩ : ∃ s2, setPut s.set k nv = s2 := ⟨_, rfl⟩
          have R7 := R6.out.num hk5 nv
          rw [hs2] at R7
          have HS2 := Lib.hid hs2
          have HR7 := Lib.hid R7
          have hsu : ∀ W, Blk W (w1.heap.size + 1) 3 (setL5 ⟨sn, sc, sf, sq, sd⟩) → Calls Tryz.prog 85 #[.slice (some ⟨w1.heap.size + 1, 0, none⟩) 5 5] W fun e w' => e = .returned (.agg #[.int .i64 sn, .int .i64 sc, .int .i64 sf, .int .i64 sq, .int .i64 sd]) ∧ Below W.heap.size W w' := fun W h => rsetup_any ⟨sn, sc, sf, sq, sd⟩ _ _ W h
          have HSU := Lib.hid hsu
          clear R7 hs2 hsu R6 cN6 fN6 cx
          go_upto_region 15 with (go_at_call 85; refine (HSU.out _ HR7.out.nums).mono ?_; rintro e w8 ⟨rfl, hb8⟩; have R8 := Lib.hid (HR7.out.next hb8); obtain ⟨b0, b1, b2, b3, b4, b5⟩ := R8.out.cells; have bf := R8.out.st.box.frozen; clear hb8)
          have R9 := Lib.hid (show RPg C w (((((w8.setCell ⟨w1.heap.size, 0, none⟩ (.int .i64 sn)).setCell ⟨w1.heap.size, 1, none⟩ (.int .i64 sc)).setCell ⟨w1.heap.size, 2, none⟩ (.int .i64 sf)).setCell ⟨w1.heap.size, 3, none⟩ (.int .i64 sq)).setCell ⟨w1.heap.size, 4, none⟩ (.int .i64 sd)) gL (w1.heap.size + 1) w1.heap.size k ⟨sn, sc, sf, sq, sd⟩ ⟨sn, sc, sf, sq, sd⟩ v l from R8.out.setup rfl)
          clear b0 b1 b2 b3 b4 b5 bf R8 HR7 HSU
          generalize (((((w8.setCell ⟨w1.heap.size, 0, none⟩ (.int .i64 sn)).setCell ⟨w1.heap.size, 1, none⟩ (.int .i64 sc)).setCell ⟨w1.heap.size, 2, none⟩ (.int .i64 sf)).setCell ⟨w1.heap.size, 3, none⟩ (.int .i64 sq)).setCell ⟨w1.heap.size, 4, none⟩ (.int .i64 sd)) = w9 at *
          cases ok with
          | false =>
            have hp : parseT t = .error k := by
              rw [HLF.out]
              refine parseB_bad HNE.out (stepP_no hk5 ?_)
              rw [HNV.out]; rfl
            have HPE := Lib.hid hp
            clear hp
            go_wp2_with (refine wpList_store_row rfl 63 (.tmp 2) (.tmp 90) rfl w.heap.size (scrCells scrZ (.slice none 0 0)).toArray rfl rfl 63 _ R9.out.res infoScr rfl (by simp [scrCells, Value.oneCell']) ?_)
            refine bodyPost_ret (results_row_tmp2 rfl _ _ w.heap.size 63 (scrCells scrZ (.slice none 0 0)).toArray (0, 0) _ rfl (R9.out.res.set (scrCells scrZ (.slice none 0 0))) Tryz.underlying63 rfl infoScr) rfl ?_
            exact ⟨by rw [HPE.out]; rfl, below_setRow R9.out.below (Nat.le_refl _) _⟩
          | true =>
            have hstep : stepP k s (txt x) = if k < 4 || maySet ⟨sn, sc, sf, sq, sd⟩ then some ⟨⟨sn, sc, sf, sq, sd⟩, s.acts⟩ else none := by
              unfold stepP
              rw [if_pos hk5, HNV.out]
              simp only [if_true]
              rw [HS2.out]
            have HST := Lib.hid hstep
            have hac := HR.out.acts
            have HAC := Lib.hid hac
            clear hstep hac HR
            by_cases hk4 : k < 4
            · have hk42 : (k : Int) < 4 := by omega
              have hp : parseT t = parseB (k + 1) ⟨⟨sn, sc, sf, sq, sd⟩, s.acts⟩ (C.drop (k + 1)) := by
                rw [HLF.out]
                refine parseB_step HNE.out ?_
                rw [HST.out]; simp [hk4]
              have HPN := Lib.hid hp
              clear hp
              go_wp2_with fail
              go_roundw
              case rel => exact ⟨k + 1, ⟨⟨sn, sc, sf, sq, sd⟩, s.acts⟩, v, l, by go_num, by omega, Lib.hid ⟨R9.out.up (by omega), HAC.out, HPN.out⟩⟩
              case measure => simp [intOf]; omega
            · have hk42 : ¬ (k : Int) < 4 := by omega
              obtain ⟨b0, b1, b2, b3, b4, b5⟩ := R9.out.cells
              have hms : ∀ W, Calls Tryz.prog 38 #[.agg #[.int .i64 sn, .int .i64 sc, .int .i64 sf, .int .i64 sq, .int .i64 sd]] W fun e w' => e = .returned (.bool (maySet ⟨sn, sc, sf, sq, sd⟩)) ∧ Below W.heap.size W w' := fun W => refmayset_any ⟨sn, sc, sf, sq, sd⟩ W
              cases hmm : maySet ⟨sn, sc, sf, sq, sd⟩ with
              | true =>
                rw [hmm] at hms
                have hp : parseT t = parseB (k + 1) ⟨⟨sn, sc, sf, sq, sd⟩, s.acts⟩ (C.drop (k + 1)) := by
                  rw [HLF.out]
                  refine parseB_step HNE.out ?_
                  rw [HST.out, hmm]; simp
                have HPN := Lib.hid hp
                have HMS := Lib.hid hms
                clear hp hms hmm
                go_wp2_with (go_at_call 38; refine (HMS.out _).mono ?_; rintro e w10 ⟨rfl, hb10⟩)
                go_roundw
                case rel => exact ⟨k + 1, ⟨⟨sn, sc, sf, sq, sd⟩, s.acts⟩, v, l, by go_num, by omega, Lib.hid ⟨(R9.out.next hb10).up (by omega), HAC.out, HPN.out⟩⟩
                case measure => simp [intOf]; omega
              | false =>
                rw [hmm] at hms
                have hp : parseT t = .error k := by
                  rw [HLF.out]
                  refine parseB_bad HNE.out ?_
                  rw [HST.out, hmm]; simp [hk4]
                have HPE := Lib.hid hp
                have HMS := Lib.hid hms
                clear hp hms hmm
                go_wp2_with (first
                  | (go_at_call 38; refine (HMS.out _).mono ?_; rintro e w10 ⟨rfl, hb10⟩; have R10 := R9.out.next hb10)
                  | (refine wpList_store_row rfl 63 (.tmp 2) (.tmp 90) rfl w.heap.size (scrCells scrZ (.slice none 0 0)).toArray rfl rfl 63 _ R10.res infoScr rfl (by simp [scrCells, Value.oneCell']) ?_))
                refine bodyPost_ret (results_row_tmp2 rfl _ _ w.heap.size 63 (scrCells scrZ (.slice none 0 0)).toArray (0, 0) _ rfl (R10.res.set (scrCells scrZ (.slice none 0 0))) Tryz.underlying63 rfl infoScr) rfl ?_
                exact ⟨by rw [HPE.out]; rfl, below_setRow R10.below (Nat.le_refl _) _⟩
      · have hk52 : ¬ (k : Int) < 5 := by omega
        have hll := HR.out.g.len
        have hal : s.acts.length = l.length := by rw [HR.out.acts, List.length_map]
        obtain ⟨q, hq⟩ : ∃ q, (actOfT (txt x)).getD arZero = q := ⟨_, rfl⟩
        obtain ⟨ok, hok⟩ : ∃ b, (actOfT (txt x)).isSome = b := ⟨_, rfl⟩
        have hao : ∀ W, Env W → Calls Tryz.prog 31 #[.string (txt x)] W fun e w' => (∃ pa pc, e = .returned (.tuple #[.agg (actCells q (.slice pa q.picks.length pc)).toArray, .bool ok]) ∧ PkAt w' pa q.picks ∧ PkFrom W.heap.size pa q.picks) ∧ Below W.heap.size W w' := fun W hE =>
          (refaof_own (txt x) (by omega) W hE).mono fun e w' ⟨h1, h2⟩ => ⟨by
            unfold raofF at h1
            rw [← hq, ← hok]
            cases ha : actOfT (txt x) with
            | none => rw [ha] at h1; exact ⟨none, 0, h1, PkAt.nil _ _, fun h => absurd rfl h⟩
            | some a => rw [ha] at h1; exact h1, h2⟩
        have hstep : stepP k s (txt x) = if ok then some ⟨s.set, s.acts ++ [q]⟩ else none := by
          unfold stepP
          rw [if_neg hk5, if_neg (by omega), ← hok, ← hq]
          cases actOfT (txt x) <;> rfl
        have HAO := Lib.hid hao
        have HST := Lib.hid hstep
        clear hao hstep hq hok hal
        obtain ⟨kd, node, source, nn, ⟨ak, am, akey, atil, avalue, alevel, alsn⟩, picks⟩ := q
        simp only [actCells] at HAO
        obtain ⟨pv, cv, hv⟩ := HR.out.g.st.row.form
        subst hv
        go_upto_region 17 with (go_at_call 31; refine (HAO.out _ (HE.out.below HR.out.g.below)).mono ?_; rintro e w5 ⟨⟨pa, pc, rfl, hpk, hpf⟩, hb5⟩)
        have R5 := HR.out.g.next hb5
        have hsz := HR.out.g.st.sz
        have hap : PkApart w5 0 (w1.heap.size + 2) (Value.slice pv l.length cv).ownBlock (⟨kd, node, source, nn, ⟨ak, am, akey, atil, avalue, alevel, alsn⟩, picks⟩, (pa, pc)) := fun hl => by
          obtain ⟨g, o, e, hg, hc⟩ := hpk hl
          obtain ⟨g2, o2, e2, hg2⟩ := hpf hl
          rw [e] at e2
          injection e2 with e2
          injection e2 with e2 e3
          subst e2
          refine ⟨g, o, e, .inr (by omega), hg, fun e4 => ?_, hc⟩
          have := (HR.out.g.st.row.lt g e4.symm).2
          omega
        have HAP := Lib.hid hap
        have hB0 := Blk.new w5 39 [.int .i64 kd, .int .i64 node, .int .i64 source, .int .i64 nn, .int .i64 ak, .int .u64 (am : Int), .string akey, .string atil, .string avalue, .int .i64 alevel, .int .u64 (alsn : Int), .slice pa picks.length pc]
        have r0 := hB0.cell 0; have r1 := hB0.cell 1; have r2 := hB0.cell 2; have r3 := hB0.cell 3; have r4 := hB0.cell 4; have r5 := hB0.cell 5; have r6 := hB0.cell 6; have r7 := hB0.cell 7; have r8 := hB0.cell 8; have r9 := hB0.cell 9; have r10 := hB0.cell 10; have r11 := hB0.cell 11
        have R6 := Lib.hid (R5.next ((Below.refl _ w5).alloc (Nat.le_refl _) (.cells #[.int .i64 kd, .int .i64 node, .int .i64 source, .int .i64 nn, .int .i64 ak, .int .u64 (am : Int), .string akey, .string atil, .string avalue, .int .i64 alevel, .int .u64 (alsn : Int), .slice pa picks.length pc] 39)))
        have d5 : (w5.alloc (.cells #[.int .i64 kd, .int .i64 node, .int .i64 source, .int .i64 nn, .int .i64 ak, .int .u64 (am : Int), .string akey, .string atil, .string avalue, .int .i64 alevel, .int .u64 (alsn : Int), .slice pa picks.length pc] 39)).cell? ⟨w1.heap.size, 5, none⟩ = some (.slice pv l.length cv) := R6.out.st.box.cell 5
        have hac := HR.out.acts
        have HAC := Lib.hid hac
        have hbe : w1.heap.size + 2 ≤ w5.heap.size := Nat.le_trans hsz hb5.size
        have hrow : ∀ i, (Value.slice pv l.length cv).ownBlock = some i → w1.heap.size + 2 ≤ i := fun i e => (HR.out.g.st.row.lt i e).1
        have HROW := Lib.hid hrow
        have hl6 : l.length ≤ 60000 := by omega
        clear hap hpk hpf hB0 R5 hb5 hac HR hrow cx
        go_upto_region 18 with (at_builtin; refine wpList_append_a rfl (.tmp 76) (.tmp 78) rfl 0 (w1.heap.size + 2) (.slice pv l.length cv) l ⟨w5.heap.size + 1, 0, none⟩ 1 1 [(⟨kd, node, source, nn, ⟨ak, am, akey, atil, avalue, alevel, alsn⟩, picks⟩, (pa, pc))] (by rfl) (by rfl) (R6.out.st.row.alloc _) (by omega) (by simp; omega) rfl (by omega) (fun j u hu => news_a (w5.alloc (.cells #[.int .i64 kd, .int .i64 node, .int .i64 source, .int .i64 nn, .int .i64 ak, .int .u64 (am : Int), .string akey, .string atil, .string avalue, .int .i64 alevel, .int .u64 (alsn : Int), .slice pa picks.length pc] 39)) (⟨kd, node, source, nn, ⟨ak, am, akey, atil, avalue, alevel, alsn⟩, picks⟩, (pa, pc)) (w5.heap.size + 1) (by simp) j u hu) (fun z hz => by rw [List.mem_singleton.1 hz]; exact (HAP.out.alloc _).alloc _) ?_; intro v7 w7 ho7 hg7; obtain ⟨p7, c7, hv7⟩ := ho7.form; rw [List.length_append, List.length_singleton] at hv7; subst hv7; have R7 := R6.out.next ((Below.refl _ _).alloc (Nat.le_refl _) (.cells #[.int .i64 kd, .int .i64 node, .int .i64 source, .int .i64 nn, .int .i64 ak, .int .u64 (am : Int), .string akey, .string atil, .string avalue, .int .i64 alevel, .int .u64 (alsn : Int), .slice pa picks.length pc] 39)); have hb7 := R7.st.box.grown hg7 (fun e => by have := HROW.out _ e.symm; omega); have q5 : w7.cell? ⟨w1.heap.size, 5, none⟩ = some (.slice pv l.length cv) := hb7.cell 5; have f5 := hb7.frozen 5)
        have R8 := R7.act hg7 HROW.out ho7 (by rw [List.length_append, List.length_singleton]; omega)
        have HR8 := Lib.hid R8
        have b5 : (w7.setCell ⟨w1.heap.size, 5, none⟩ (.slice p7 (l.length + 1) c7)).cell? ⟨w1.heap.size, 5, none⟩ = some (.slice p7 (l.length + 1) c7) := R8.st.box.cell 5
        clear q5 f5 r0 r1 r2 r3 r4 r5 r6 r7 r8 r9 r10 r11 d5 R6 R7 R8 ho7 hg7 hb7 HAP
        generalize w7.setCell ⟨w1.heap.size, 5, none⟩ (.slice p7 (l.length + 1) c7) = w8 at *
        have g6 : (l.length : Int) + 1 ≤ 65536 := by omega
        cases ok with
        | false =>
          have hp : parseT t = .error k := by
            rw [HLF.out]
            refine parseB_bad HNE.out ?_
            rw [HST.out]; rfl
          have HPE := Lib.hid hp
          clear hp
          go_wp2_with (refine wpList_store_row rfl 63 (.tmp 2) (.tmp 90) rfl w.heap.size (scrCells scrZ (.slice none 0 0)).toArray rfl rfl 63 _ HR8.out.res infoScr rfl (by simp [scrCells, Value.oneCell']) ?_)
          refine bodyPost_ret (results_row_tmp2 rfl _ _ w.heap.size 63 (scrCells scrZ (.slice none 0 0)).toArray (0, 0) _ rfl (HR8.out.res.set (scrCells scrZ (.slice none 0 0))) Tryz.underlying63 rfl infoScr) rfl ?_
          exact ⟨by rw [HPE.out]; rfl, below_setRow HR8.out.below (Nat.le_refl _) _⟩
        | true =>
          have hp : parseT t = parseB (k + 1) ⟨s.set, s.acts ++ [⟨kd, node, source, nn, ⟨ak, am, akey, atil, avalue, alevel, alsn⟩, picks⟩]⟩ (C.drop (k + 1)) := by
            rw [HLF.out]
            refine parseB_step HNE.out ?_
            rw [HST.out]; rfl
          have HPN := Lib.hid hp
          clear hp
          go_wp2_with fail
          go_roundw
          case rel => exact ⟨k + 1, ⟨s.set, s.acts ++ [⟨kd, node, source, nn, ⟨ak, am, akey, atil, avalue, alevel, alsn⟩, picks⟩]⟩, _, _, by go_num, by omega, Lib.hid ⟨HR8.out, by rw [HAC.out]; simp, HPN.out⟩⟩
          case measure => simp [intOf]; omega
    · obtain rfl : k = n := by omega
      have hlt2 : ¬ (k : Int) < (k : Int) := by omega
      have hleft := HR.out.left
      rw [drop_at HL.out, List.drop_of_length_le (by rw [HN.out]; exact Nat.le_refl _), parseB_last] at hleft
      have HRES := HR.out.g.res
      have hne2 : ¬ (txt []).size = 1 := by decide
      clear hne2
      cases last with
      | cons c0 r0 =>
        have he : (txt (c0 :: r0)).toList.isEmpty = false := by rw [toList_bs]; rfl
        rw [if_neg (fun h => by cases h.1)] at hleft
        have HP := Lib.hid hleft
        clear hleft
        go_wp2_with (refine wpList_store_row rfl 63 (.tmp 2) (.tmp 99) rfl w.heap.size (scrCells scrZ (.slice none 0 0)).toArray rfl rfl 63 _ HR.out.g.res infoScr rfl (by simp [scrCells, Value.oneCell']) ?_)
        refine bodyPost_ret (results_row_tmp2 rfl _ _ w.heap.size 63 (scrCells scrZ (.slice none 0 0)).toArray (0, 0) _ rfl (HR.out.g.res.set (scrCells scrZ (.slice none 0 0))) Tryz.underlying63 rfl infoScr) rfl ?_
        exact ⟨by rw [HP.out]; rfl, below_setRow HR.out.g.below (Nat.le_refl _) _⟩
      | nil =>
        have he : (txt []).toList.isEmpty = true := by rw [toList_bs]; rfl
        by_cases hk5 : k < 5
        · have gk : (k : Int) < 5 := by omega
          rw [if_neg (by omega)] at hleft
          have HP := Lib.hid hleft
          clear hleft
          go_wp2_with (refine wpList_store_row rfl 63 (.tmp 2) (.tmp 99) rfl w.heap.size (scrCells scrZ (.slice none 0 0)).toArray rfl rfl 63 _ HR.out.g.res infoScr rfl (by simp [scrCells, Value.oneCell']) ?_)
          refine bodyPost_ret (results_row_tmp2 rfl _ _ w.heap.size 63 (scrCells scrZ (.slice none 0 0)).toArray (0, 0) _ rfl (HR.out.g.res.set (scrCells scrZ (.slice none 0 0))) Tryz.underlying63 rfl infoScr) rfl ?_
          exact ⟨by rw [HP.out]; rfl, below_setRow HR.out.g.below (Nat.le_refl _) _⟩
        · have gk : ¬ (k : Int) < 5 := by omega
          rw [if_pos ⟨rfl, by omega⟩] at hleft
          have HP := Lib.hid hleft
          clear hleft
          obtain ⟨pa, pc, hv, hat⟩ := HR.out.g.st.row.at
          subst hv
          have hr : wr.rangeAt w1.heap.size 0 (scrCells ⟨s.set, []⟩ (.slice pa l.length pc)) := fun j u hu => by rw [Nat.zero_add]; exact (HR.out.g.st.box.cell j).trans hu
          have HRG := Lib.hid hr
          have hsl : s.acts.length = l.length := by rw [HR.out.acts, List.length_map]
          have HSL := Lib.hid hsl
          have hbw := HR.out.g.bw
          clear hr hat hsl
          go_wp2_with (first
            | (refine wpList_load_mid rfl 63 (.tmp 7) rfl w1.heap.size 0 rfl (scrCells ⟨s.set, []⟩ (.slice pa l.length pc)) _ HRG.out Tryz.underlying63 rfl infoScr ?_)
            | (refine wpList_store_row rfl 63 (.tmp 2) (.tmp 102) rfl w.heap.size (scrCells ⟨s.set, []⟩ (.slice pa l.length pc)).toArray rfl rfl 63 _ HRES infoScr rfl (by simp [scrCells, Value.oneCell']) ?_))
          refine bodyPost_ret (results_row_tmp2 rfl _ _ w.heap.size 63 (scrCells ⟨s.set, []⟩ (.slice pa l.length pc)).toArray (0, 0) _ rfl (HRES.set (scrCells ⟨s.set, []⟩ (.slice pa l.length pc))) Tryz.underlying63 rfl infoScr) rfl ?_
          refine ⟨?_, below_setRow HR.out.g.below (Nat.le_refl _) _⟩
          rw [HP.out]
          have hrow : AcRow (wr.setRow w.heap.size (scrCells ⟨s.set, []⟩ (.slice pa l.length pc)).toArray) 0 (w1.heap.size + 2) (.slice pa l.length pc) l := HR.out.g.st.row.turn (grownBy_setRow _ _ _) (fun i e => by injection e with e; omega)
          obtain ⟨pa', pc', e', hat'⟩ := hrow.at
          injection e' with e1 e2 e3
          subst e1 e3
          refine ⟨pa, pc, ?_, by rw [HR.out.acts]; exact hat'⟩
          rw [HSL.out]; rfl
end Go.Proofs.YtgplaeopcejmoaaGreatDoor
