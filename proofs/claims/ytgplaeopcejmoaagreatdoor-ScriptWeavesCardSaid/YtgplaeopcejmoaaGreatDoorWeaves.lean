/- The law ScriptWeaves, walked. -/
import Derived.Test.YtgplaeopcejmoaaGreatDoorWeaveu
import Derived.Test.YtgplaeopcejmoaaGreatDoorPairs
namespace Go.Proofs.YtgplaeopcejmoaaGreatDoor
open Go.RowKit Go.Shelf

theorem split_row (s : Scr) (hm : mayScr s = true) (ok : ScrOk s) (few : Few s) (w : World) :
    Calls Tryz.prog 24 #[.string (scrText s), .int .u8 10] w fun e w' => (∃ g c, e = .returned (.slice (some ⟨g, 0, none⟩) (s.acts.length + 6) c) ∧ s.acts.length + 6 ≤ c ∧ StrRow w' g (scrLines s ++ [⟨#[]⟩])) ∧ Below w.heap.size w w' := by
  have hl := few.len
  have hlen : (scrLines s ++ [(⟨#[]⟩ : ByteArray)]).length = s.acts.length + 6 := by rw [List.length_append, scrLines_len, List.length_singleton]; omega
  have hz : (scrText s).size ≤ 4000000 := by
    unfold scrText
    rw [txt_size]
    have := few_len ok few; omega
  refine (split_big (scrText s) 10 hz (by rw [wv_cuts hm, List.length_append, List.length_map, scrLines_len, List.length_singleton]; omega) w).mono fun e w' ⟨⟨v, he, hv⟩, hb⟩ => ⟨?_, hb⟩
  rw [wv_split hm] at hv
  obtain ⟨g, c, rfl, hc, _, hr⟩ := hv.rowAt (by simp)
  rw [hlen] at hc he
  exact ⟨g, c, he, hc, hr⟩
theorem step_append_at {w : World} {ops : Array Oper} {o : Oper} {a : Act} {K : Act → World → Prop} {Q : Exit → Act → World → Prop} {E : Prop} (hgd : o.guard = none) (s x : Operand)
    (ho : o.op = .call { callee := .builtin .append, args := #[s, x], argTypes := #[61, 61] }) (base : Nat) (v : Value) (l : List ArV) (pa : Option Addr) (m c : Nat) (news : List Ar) (hs : a.eval s = v) (hx : a.eval x = .slice pa m c)
    (h : AcRow w base base v l) (hn : l.length ≤ 1000000) (hbase : base ≤ w.heap.size) (hm : m = news.length) (hn2 : m ≤ 1000000)
    (w0 : World) (hw0 : w0.heap.size ≤ base) (hA0 : ActsAt w0 pa news) (hb0 : Below w0.heap.size w0 w) (hlow : PkLow base l)
    (hk : ∀ pv c' w' l', PkLow base l' → l'.map (·.1) = l.map (·.1) ++ news → l'.length = l.length + news.length → AcRow w' base base (.slice pv l'.length c') l' → w.grownBy w' v.ownBlock → K (a.put o.dst (.slice pv l'.length c')) w') : if Region.wanted o (yielded ops a.tmps) = true then Oper.wp Tryz.prog o a w K Q else E := by
  obtain ⟨v', w', l', hlo, hr, h1, h2, h3, h4⟩ := append_at w base v l h hn hbase pa c m news hm hn2 w0 hw0 hA0 hb0 hlow o.type
  obtain ⟨pv, c', rfl⟩ := h3.form
  exact step_two hgd .append s x #[61, 61] ho v _ hs hx hr (hk pv c' w' l' hlo h1 h2 h3 h4)

theorem bel_alloc {a b : World} (h : Below a.heap.size a b) (x : Obj) : Below a.heap.size a (b.alloc x) := h.alloc h.size x
theorem bel_size {a b : World} (h : Below a.heap.size a b) : a.heap.size ≤ b.heap.size := h.size
theorem bel_next {a b c : World} (h : Below a.heap.size a b) (hb : Below b.heap.size b c) : Below a.heap.size a c := h.trans (hb.mono h.size)
theorem bel_turn {a b c : World} {row : Option Nat} (h : Below a.heap.size a b) (hg : b.grownBy c row) (hr : ∀ k, row = some k → a.heap.size ≤ k) : Below a.heap.size a c := h.grown hg h.size hr
theorem StrRow.drew {W : World} {g : Nat} {l : List ByteArray} (h : StrRow W g l) : StrRow W.drew g l := h.below ((Below.refl _ _).drew)
theorem StrRow.alloc {W : World} {g : Nat} {l : List ByteArray} (h : StrRow W g l) (x : Obj) : StrRow (W.alloc x) g l := h.below ((Below.refl _ _).alloc (Nat.le_refl _) _)
theorem StrAt.alloc {W : World} {p : Option Addr} {l : List ByteArray} (h : StrAt W p l) (x : Obj) : StrAt (W.alloc x) p l := h.below ((Below.refl _ _).alloc (Nat.le_refl _) _)
theorem OwnS.drew {w : World} {base : Nat} {v : Value} {l : List ByteArray} (h : OwnS w base v l) : OwnS w.drew base v l := h.below ((Below.refl _ _).drew)
/-- a script's variable that is empty yet, made in a region -/
structure Zb (w0 W : World) (q : Nat) : Prop where
  le : w0.heap.size ≤ q
  row : Blk W q 63 [.int .i64 0, .int .i64 0, .int .i64 0, .int .i64 0, .int .i64 0, .slice none 0 0]
theorem Zb.new {w0 W : World} (h : Below w0.heap.size w0 W) : Zb w0 (W.alloc (.cells #[.int .i64 0, .int .i64 0, .int .i64 0, .int .i64 0, .int .i64 0, .slice none 0 0] 63)) W.heap.size := ⟨h.size, Blk.new W 63 _⟩
theorem Zb.newd {w0 W : World} (h : Below w0.heap.size w0 W) : Zb w0 (W.drew.alloc (.cells #[.int .i64 0, .int .i64 0, .int .i64 0, .int .i64 0, .int .i64 0, .slice none 0 0] 63)) W.heap.size := Zb.new h.drew
theorem Zb.drew {w0 W : World} {q : Nat} (h : Zb w0 W q) : Zb w0 W.drew q := ⟨h.le, h.row.drew⟩
theorem Zb.alloc {w0 W : World} {q : Nat} (h : Zb w0 W q) (x : Obj) : Zb w0 (W.alloc x) q := ⟨h.le, h.row.alloc x⟩
theorem Zb.next {w0 W W' : World} {q : Nat} (h : Zb w0 W q) (hb : Below W.heap.size W W') : Zb w0 W' q := ⟨h.le, h.row.below hb h.row.lt⟩
theorem Zb.turn {w0 W W' : World} {q : Nat} {row : Option Nat} (h : Zb w0 W q) (hg : W.grownBy W' row) (hn : some q ≠ row) : Zb w0 W' q := ⟨h.le, h.row.grown hg hn⟩
theorem Zb.own {w0 W : World} {q base : Nat} {v : Value} {l : List ByteArray} (h : Zb w0 W q) (ho : OwnS W base v l) : some q ≠ v.ownBlock := own_ne ho h.row (by simp)
theorem Zb.cells {w0 W : World} {q : Nat} (h : Zb w0 W q) : W.cell? ⟨q, 0, none⟩ = some (.int .i64 0) ∧ W.cell? ⟨q, 1, none⟩ = some (.int .i64 0) ∧ W.cell? ⟨q, 2, none⟩ = some (.int .i64 0) ∧ W.cell? ⟨q, 3, none⟩ = some (.int .i64 0) ∧ W.cell? ⟨q, 4, none⟩ = some (.int .i64 0) ∧ W.cell? ⟨q, 5, none⟩ = some (.slice none 0 0) ∧ (∀ j, W.frozen? ⟨q, j, none⟩ = false) :=
  ⟨h.row.cell 0, h.row.cell 1, h.row.cell 2, h.row.cell 3, h.row.cell 4, h.row.cell 5, fun j => h.row.frozen j⟩

/-- such a variable, and acts that lie behind it -/
structure Zq (w0 W : World) (q : Nat) (v : Value) (l : List ArV) : Prop where
  zb : Zb w0 W q
  row : AcRow W 0 (q + 1) v l
theorem Zb.nextq {w0 W W' : World} {q : Nat} {v : Value} {l : List ArV} (hb : Below W.heap.size W W') (hac : AcRow W' 0 W.heap.size v l) (h : Zb w0 W q) : Zq w0 W' q v l := ⟨h.next hb, hac.mono h.row.lt⟩
theorem acrow_at {w : World} {B base n c : Nat} {p : Option Addr} {l : List ArV} (h : AcRow w B base (.slice p n c) l) : ActsAt w p (l.map (·.1)) := by
  obtain ⟨p', c', e, hat⟩ := h.at
  injection e with e1 e2 e3
  subst e1
  exact hat
theorem Zq.fill {w0 W : World} {q : Nat} {p : Option Addr} {m cc : Nat} {l : List ArV} (h : Zq w0 W q (.slice p m cc) l) (hB : Below w0.heap.size w0 W) (n c f k d : Int) (W' : World)
    (hW : W' = ((((((W.setCell ⟨q, 0, none⟩ (.int .i64 n)).setCell ⟨q, 1, none⟩ (.int .i64 c)).setCell ⟨q, 2, none⟩ (.int .i64 f)).setCell ⟨q, 3, none⟩ (.int .i64 k)).setCell ⟨q, 4, none⟩ (.int .i64 d)).setCell ⟨q, 5, none⟩ (.slice p m cc))) :
    Blk W' q 63 [.int .i64 n, .int .i64 c, .int .i64 f, .int .i64 k, .int .i64 d, .slice p m cc] ∧ ActsAt W' p (l.map (·.1)) ∧ Below w0.heap.size w0 W' := by
  subst hW
  refine ⟨?_, ?_, ?_⟩
  · exact (((((h.zb.row.setCell 0 (.int .i64 n) (by simp)).setCell 1 (.int .i64 c) (by simp)).setCell 2 (.int .i64 f) (by simp)).setCell 3 (.int .i64 k) (by simp)).setCell 4 (.int .i64 d) (by simp)).setCell 5 (.slice p m cc) (by simp)
  · have hk : ∀ i, some q = some i → 0 ≤ i ∧ i < q + 1 := fun i e => by injection e with e; omega
    exact acrow_at ((((((h.row.turn (grown_setCell _ _ _ _) hk).turn (grown_setCell _ _ _ _) hk).turn (grown_setCell _ _ _ _) hk).turn (grown_setCell _ _ _ _) hk).turn (grown_setCell _ _ _ _) hk).turn (grown_setCell _ _ _ _) hk)
  · have hk : ∀ i, some q = some i → w0.heap.size ≤ i := fun i e => by injection e with e; have := h.zb.le; omega
    exact bel_turn (bel_turn (bel_turn (bel_turn (bel_turn (bel_turn hB (grown_setCell _ _ _ _) hk) (grown_setCell _ _ _ _) hk) (grown_setCell _ _ _ _) hk) (grown_setCell _ _ _ _) hk) (grown_setCell _ _ _ _) hk) (grown_setCell _ _ _ _) hk

/-- such a variable beside acts of the call's own, whose picks lie ahead -/
structure Zr (w0 W : World) (q : Nat) (v : Value) (l : List ArV) : Prop where
  zb : Zb w0 W q
  row : AcRow W w0.heap.size w0.heap.size v l
  low : PkLow w0.heap.size l
theorem Zr.fill {w0 W : World} {q : Nat} {p : Option Addr} {m cc : Nat} {l : List ArV} (h : Zr w0 W q (.slice p m cc) l) (hB : Below w0.heap.size w0 W) (n c f k d : Int) (W' : World)
    (hW : W' = ((((((W.setCell ⟨q, 0, none⟩ (.int .i64 n)).setCell ⟨q, 1, none⟩ (.int .i64 c)).setCell ⟨q, 2, none⟩ (.int .i64 f)).setCell ⟨q, 3, none⟩ (.int .i64 k)).setCell ⟨q, 4, none⟩ (.int .i64 d)).setCell ⟨q, 5, none⟩ (.slice p m cc))) :
    Blk W' q 63 [.int .i64 n, .int .i64 c, .int .i64 f, .int .i64 k, .int .i64 d, .slice p m cc] ∧ ActsAt W' p (l.map (·.1)) ∧ Below w0.heap.size w0 W' := by
  subst hW
  refine ⟨?_, ?_, ?_⟩
  · exact (((((h.zb.row.setCell 0 (.int .i64 n) (by simp)).setCell 1 (.int .i64 c) (by simp)).setCell 2 (.int .i64 f) (by simp)).setCell 3 (.int .i64 k) (by simp)).setCell 4 (.int .i64 d) (by simp)).setCell 5 (.slice p m cc) (by simp)
  · have hne := acrow_ne h.row h.zb.row (by simp)
    exact acrow_at ((((((h.row.low h.low (grown_setCell _ _ _ _) h.zb.le hne).low h.low (grown_setCell _ _ _ _) h.zb.le hne).low h.low (grown_setCell _ _ _ _) h.zb.le hne).low h.low (grown_setCell _ _ _ _) h.zb.le hne).low h.low (grown_setCell _ _ _ _) h.zb.le hne).low h.low (grown_setCell _ _ _ _) h.zb.le hne)
  · have hk : ∀ i, some q = some i → w0.heap.size ≤ i := fun i e => by injection e with e; have := h.zb.le; omega
    exact bel_turn (bel_turn (bel_turn (bel_turn (bel_turn (bel_turn hB (grown_setCell _ _ _ _) hk) (grown_setCell _ _ _ _) hk) (grown_setCell _ _ _ _) hk) (grown_setCell _ _ _ _) hk) (grown_setCell _ _ _ _) hk) (grown_setCell _ _ _ _) hk

theorem StrRow.strL {W : World} {g : Nat} {l r : List ByteArray} (h : StrRow W g (l ++ r)) (k : Nat) (hk : k ≤ l.length) : StrAt W (some ⟨g, 0, none⟩) (l.take k) := by
  have := h.str k
  rw [List.take_append_of_le_length hk] at this
  exact this

theorem wv_lines_both {a b : Scr} (oa : ScrOk a) (ob : ScrOk b) (fa : Few a) (fb : Few b) (W : World) (pa : Option Addr) (c : Nat) (h : StrAt W pa (scrLines a ++ (scrLines b).drop 5)) :
    Calls Tryz.prog 40 #[.slice pa (scrLines a ++ (scrLines b).drop 5).length c] W fun e w' => e = .returned (.string (txt (lnB (scrLines a ++ (scrLines b).drop 5)))) ∧ Below W.heap.size W w' := by
  have h1 := few_len oa fa
  have h2 := few_len ob fb
  have h3 := lnB_drop_le (scrLines b) 5
  have h4 := fa.len
  have h5 := fb.len
  refine lines_any _ pa c W h ?_ ?_
  · rw [List.length_append, List.length_drop, scrLines_len, scrLines_len]; omega
  · rw [lnB_app, List.length_append]; omega
theorem wv_parse_both {a b : Scr} (ha : mayScr a = true) (hb : mayScr b = true) (oa : ScrOk a) (ob : ScrOk b) (fa : Few a) (fb : Few b) (W : World) (hE : Env W) :
    Calls Tryz.prog 36 #[.string (txt (lnB (scrLines a ++ (scrLines b).drop 5)))] W fun e w' => (∃ p c l, e = .returned (.tuple #[.agg (scrCells a (.slice p (a.acts.length + b.acts.length) c)).toArray, .int .i64 0, .int .i64 0]) ∧ a.acts ++ b.acts = l.map (·.1) ∧ AcRow w' 0 W.heap.size (.slice p (a.acts.length + b.acts.length) c) l) ∧ Below W.heap.size W w' := by
  have h1 := few_len oa fa
  have h2 := few_len ob fb
  have h3 := lnB_drop_le (scrLines b) 5
  have hl : ∀ x ∈ scrLines a ++ (scrLines b).drop 5, lackB 10 (bs x) ∧ x.size ≤ 1000000 := fun x hx => by
    rcases List.mem_append.1 hx with hx | hx
    · exact ⟨scrLines_lack ha x hx, scrLine_small oa fa x hx⟩
    · exact ⟨scrLines_lack hb x (List.mem_of_mem_drop hx), scrLine_small ob fb x (List.mem_of_mem_drop hx)⟩
  refine (parse_own _ ?_ (cuts_small (fun x hx => (hl x hx).1) (fun x hx => (hl x hx).2)) W hE).mono fun e w' ⟨he, hbel⟩ => ⟨?_, hbel⟩
  · rw [txt_size, lnB_app, List.length_append]; omega
  · rw [wv_both ha hb oa ob fa fb] at he
    obtain ⟨p, c, l, h4, h5, h6⟩ := he
    rw [show (scrBoth a b).acts.length = a.acts.length + b.acts.length from List.length_append] at h4 h6
    exact ⟨p, c, l, h4, h5, h6⟩
theorem wv_lines_take {a : Scr} (oa : ScrOk a) (fa : Few a) (k : Nat) (hk : k ≤ 5 + a.acts.length) (W : World) (pa : Option Addr) (c : Nat) (h : StrAt W pa ((scrLines a).take k)) :
    Calls Tryz.prog 40 #[.slice pa k c] W fun e w' => e = .returned (.string (txt (lnB ((scrLines a).take k)))) ∧ Below W.heap.size W w' := by
  have h1 := few_len oa fa
  have h3 := lnB_take_le (scrLines a) k
  have h4 := fa.len
  have e : ((scrLines a).take k).length = k := by rw [List.length_take, scrLines_len]; omega
  have := lines_any _ pa c W h (by rw [e]; omega) (by omega)
  rw [e] at this
  exact this
theorem wv_wrong_take {a : Scr} (ha : mayScr a = true) (oa : ScrOk a) (fa : Few a) (k : Nat) (hk : k < 5) (W : World) (hE : Env W) :
    Calls Tryz.prog 41 #[.string (txt (lnB ((scrLines a).take k))), .int .i64 k] W fun e w' => e = .returned (.bool true) ∧ Below W.heap.size W w' := by
  have h1 := few_len oa fa
  have h3 := lnB_take_le (scrLines a) k
  refine wrong_any _ k (wv_wrong ha hk) (by rw [txt_size]; omega) (cuts_small (fun x hx => scrLines_lack ha x (List.mem_of_mem_take hx)) (fun x hx => scrLine_small oa fa x (List.mem_of_mem_take hx))) W hE
theorem wv_parse_take {a : Scr} (ha : mayScr a = true) (oa : ScrOk a) (fa : Few a) (k : Nat) (hk : 5 ≤ k) (hk2 : k ≤ 5 + a.acts.length) (W : World) (hE : Env W) :
    Calls Tryz.prog 36 #[.string (txt (lnB ((scrLines a).take k)))] W fun e w' => (∃ p c, e = .returned (.tuple #[.agg (scrCells a (.slice p (k - 5) c)).toArray, .int .i64 0, .int .i64 0]) ∧ ActsAt w' p (a.acts.take (k - 5))) ∧ Below W.heap.size W w' := by
  have h1 := few_len oa fa
  have h3 := lnB_take_le (scrLines a) k
  refine (parse_any _ ?_ (cuts_small (fun x hx => scrLines_lack ha x (List.mem_of_mem_take hx)) (fun x hx => scrLine_small oa fa x (List.mem_of_mem_take hx))) W hE).mono fun e w' ⟨he, hbel⟩ => ⟨?_, hbel⟩
  · rw [txt_size]; omega
  · rw [wv_less ha oa fa hk] at he
    obtain ⟨p, c, h4, h5⟩ := he
    rw [show (scrTake a (k - 5)).acts.length = k - 5 by unfold scrTake; rw [List.length_take]; omega] at h4
    exact ⟨p, c, h4, h5⟩
theorem wv_same (s : Sup) (l : List Ar) (hl : l.length ≤ 1000000) (hf : fewP l) (p q : Option Addr) (c d n : Nat) (hn : n = l.length) (W : World) (hP : ActsAt W p l) (hQ : ActsAt W q l) :
    Calls Tryz.prog 34 #[.agg (scrCells ⟨s, []⟩ (.slice p n c)).toArray, .agg (scrCells ⟨s, []⟩ (.slice q n d)).toArray] W fun e w' => e = .returned (.bool true) ∧ Below W.heap.size W w' := by
  subst hn
  exact (refsames_any ⟨s, l⟩ ⟨s, l⟩ p q c d W (by simp only; omega) hf hf hP hQ).mono fun e w' ⟨⟨r, he, hr⟩, h2⟩ => ⟨by rw [he, hr.2 rfl], h2⟩

set_option maxRecDepth 100000 in
set_option maxHeartbeats 8000000 in
theorem lawWeaves_any (a b : Scr) (n : Int) (oa : ScrOk a) (ob : ScrOk b) (pa pb : Option Addr) (ca cb : Nat) (w : World) (hA : ActsAt w pa a.acts) (hB : ActsAt w pb b.acts) (hca : a.acts.length ≤ ca) (henv : Env w) :
    Calls Tryz.prog 9 #[.agg (scrCells a (.slice pa a.acts.length ca)).toArray, .agg (scrCells b (.slice pb b.acts.length cb)).toArray, .int .i64 n] w fun e w' => e = .returned (.bool true) ∧ Below w.heap.size w w' := by
  have hX := (Blk.new w 63 (scrCells a (.slice pa a.acts.length ca))).alloc (.cells (scrCells b (.slice pb b.acts.length cb)).toArray 63)
  have hY := Blk.new (w.alloc (.cells (scrCells a (.slice pa a.acts.length ca)).toArray 63)) 63 (scrCells b (.slice pb b.acts.length cb))
  rw [World.size_alloc] at hY
  have hbel : Below w.heap.size w ((w.alloc (.cells (scrCells a (.slice pa a.acts.length ca)).toArray 63)).alloc (.cells (scrCells b (.slice pb b.acts.length cb)).toArray 63)) := ((Below.refl _ w).alloc (Nat.le_refl _) _).alloc (by simp) _
  have HP : PW w _ a b pa pb ca cb := ⟨hbel, hX, hY, hA.below hbel, hB.below hbel, henv.below hbel⟩
  clear hX hY hbel hA hB henv
  obtain ⟨⟨nodes, capacity, frames, quorum, delay⟩, acts⟩ := a
  obtain ⟨⟨nodes2, capacity2, frames2, quorum2, delay2⟩, acts2⟩ := b
  simp only [scrCells] at HP hca ⊢
  have hm1 : ∀ W, ActsAt W pa acts → Calls Tryz.prog 32 #[.agg #[.int .i64 nodes, .int .i64 capacity, .int .i64 frames, .int .i64 quorum, .int .i64 delay, .slice pa acts.length ca]] W fun e w' => muchR ⟨⟨nodes, capacity, frames, quorum, delay⟩, acts⟩ e ∧ Below W.heap.size W w' := fun W h => much_any ⟨⟨nodes, capacity, frames, quorum, delay⟩, acts⟩ pa ca W h
  have hm2 : ∀ W, ActsAt W pb acts2 → Calls Tryz.prog 32 #[.agg #[.int .i64 nodes2, .int .i64 capacity2, .int .i64 frames2, .int .i64 quorum2, .int .i64 delay2, .slice pb acts2.length cb]] W fun e w' => muchR ⟨⟨nodes2, capacity2, frames2, quorum2, delay2⟩, acts2⟩ e ∧ Below W.heap.size W w' := fun W h => much_any ⟨⟨nodes2, capacity2, frames2, quorum2, delay2⟩, acts2⟩ pb cb W h
  have ht1 : Few ⟨⟨nodes, capacity, frames, quorum, delay⟩, acts⟩ → ∀ W, ActsAt W pa acts → Env W → Calls Tryz.prog 33 #[.agg #[.int .i64 nodes, .int .i64 capacity, .int .i64 frames, .int .i64 quorum, .int .i64 delay, .slice pa acts.length ca]] W fun e w' => e = .returned (textR ⟨⟨nodes, capacity, frames, quorum, delay⟩, acts⟩) ∧ Below W.heap.size W w' := fun hf W h he => text_few oa hf pa ca W h he
  have ht2 : Few ⟨⟨nodes2, capacity2, frames2, quorum2, delay2⟩, acts2⟩ → ∀ W, ActsAt W pb acts2 → Env W → Calls Tryz.prog 33 #[.agg #[.int .i64 nodes2, .int .i64 capacity2, .int .i64 frames2, .int .i64 quorum2, .int .i64 delay2, .slice pb acts2.length cb]] W fun e w' => e = .returned (textR ⟨⟨nodes2, capacity2, frames2, quorum2, delay2⟩, acts2⟩) ∧ Below W.heap.size W w' := fun hf W h he => text_few ob hf pb cb W h he
  have HM1 := Lib.hid hm1; have HM2 := Lib.hid hm2; have HT1 := Lib.hid ht1; have HT2 := Lib.hid ht2; have HOA := Lib.hid oa; have HOB := Lib.hid ob
  clear hm1 hm2 ht1 ht2 oa ob
  obtain ⟨x0, x1, x2, x3, x4, x5, y0, y1, y2, y3, y4, y5⟩ := HP.cells
  go_enter Tryz.func9, Tryz.ntmps9
  go_wp2_with fail
  refine (HM1.out _ HP.aa).mono ?_
  rintro e w1 ⟨⟨b1, rfl, hfa⟩, hb1⟩
  clear x0 x1 x2 x3 x4 x5 y0 y1 y2 y3 y4 y5
  replace HP := HP.next hb1
  obtain ⟨x0, x1, x2, x3, x4, x5, y0, y1, y2, y3, y4, y5⟩ := HP.cells
  cases b1 with
  | true =>
    clear hfa
    go_wp2_with (first
      | (go_at_call 11; refine (known_any _ HP.env).mono ?_; rintro e wk ⟨rfl, hbk⟩; clear x0 x1 x2 x3 x4 x5 y0 y1 y2 y3 y4 y5; replace HP := HP.next hbk))
    go_ret
    exact ⟨rfl, HP.below⟩
  | false =>
    have HFA := Lib.hid (hfa rfl)
    clear hfa hb1
    go_wp2_with fail
    refine (HM2.out _ HP.bb).mono ?_
    rintro e w2 ⟨⟨b2, rfl, hfb⟩, hb2⟩
    clear x0 x1 x2 x3 x4 x5 y0 y1 y2 y3 y4 y5
    replace HP := HP.next hb2
    obtain ⟨x0, x1, x2, x3, x4, x5, y0, y1, y2, y3, y4, y5⟩ := HP.cells
    cases b2 with
    | true =>
      clear hfb
      go_wp2_with (first
        | (go_at_call 11; refine (known_any _ HP.env).mono ?_; rintro e wk ⟨rfl, hbk⟩; clear x0 x1 x2 x3 x4 x5 y0 y1 y2 y3 y4 y5; replace HP := HP.next hbk))
      go_ret
      exact ⟨rfl, HP.below⟩
    | false =>
      have HFB := Lib.hid (hfb rfl)
      clear hfb hb2
      go_wp2_with fail
      refine (HT1.out HFA.out _ HP.aa HP.env).mono ?_
      rintro e w3 ⟨rfl, hb3⟩
      clear x0 x1 x2 x3 x4 x5 y0 y1 y2 y3 y4 y5
      replace HP := HP.next hb3
      obtain ⟨x0, x1, x2, x3, x4, x5, y0, y1, y2, y3, y4, y5⟩ := HP.cells
      clear hb3
      rcases textR_few HFA.out with ⟨ma, ha⟩ | ⟨ma, ha⟩
      · rw [ha]
        clear ha
        have HMA := Lib.hid ma
        clear ma
        go_wp2_with fail
        refine (HT2.out HFB.out _ HP.bb HP.env).mono ?_
        rintro e w4 ⟨rfl, hb4⟩
        clear x0 x1 x2 x3 x4 x5 y0 y1 y2 y3 y4 y5
        replace HP := HP.next hb4
        obtain ⟨x0, x1, x2, x3, x4, x5, y0, y1, y2, y3, y4, y5⟩ := HP.cells
        clear hb4
        rcases textR_few HFB.out with ⟨mb, hb⟩ | ⟨mb, hb⟩
        · rw [hb]
          clear hb
          have HMB := Lib.hid mb
          clear mb
          have hsa := split_row ⟨⟨nodes, capacity, frames, quorum, delay⟩, acts⟩ HMA.out HOA.out HFA.out
          have hsb := split_row ⟨⟨nodes2, capacity2, frames2, quorum2, delay2⟩, acts2⟩ HMB.out HOB.out HFB.out
          have hlb := fun W pa c n (hn : n = (scrLines ⟨⟨nodes, capacity, frames, quorum, delay⟩, acts⟩ ++ (scrLines ⟨⟨nodes2, capacity2, frames2, quorum2, delay2⟩, acts2⟩).drop 5).length) h => hn ▸ wv_lines_both HOA.out HOB.out HFA.out HFB.out W pa c h
          have hpb := fun W h => wv_parse_both HMA.out HMB.out HOA.out HOB.out HFA.out HFB.out W h
          have hlt := fun k hk W pa c h => wv_lines_take HOA.out HFA.out k hk W pa c h
          have hwr := fun k hk W h => wv_wrong_take HMA.out HOA.out HFA.out k hk W h
          have hpt := fun k hk hk2 W h => wv_parse_take HMA.out HOA.out HFA.out k hk hk2 W h
          have hs1 := fun l hl hf p q c d n hn W h1 h2 => wv_same ⟨nodes, capacity, frames, quorum, delay⟩ l hl hf p q c d n hn W h1 h2
          have fl1 := scrLines_len ⟨⟨nodes, capacity, frames, quorum, delay⟩, acts⟩
          have fl2 := scrLines_len ⟨⟨nodes2, capacity2, frames2, quorum2, delay2⟩, acts2⟩
          have la := HFA.out.len
          have lb := HFB.out.len
          have hfa := few_picks HFA.out
          have hfb := few_picks HFB.out
          generalize scrText ⟨⟨nodes, capacity, frames, quorum, delay⟩, acts⟩ = t at *
          generalize scrText ⟨⟨nodes2, capacity2, frames2, quorum2, delay2⟩, acts2⟩ = u at *
          generalize scrLines ⟨⟨nodes, capacity, frames, quorum, delay⟩, acts⟩ = LA at *
          generalize scrLines ⟨⟨nodes2, capacity2, frames2, quorum2, delay2⟩, acts2⟩ = LB at *
          generalize htb : txt (lnB (LA ++ LB.drop 5)) = tb at *
          clear htb
          simp only [scrCells] at hpb hpt hs1 hsa hsb fl1 fl2 la lb hfa hfb
          have HSA := Lib.hid hsa; have HSB := Lib.hid hsb; have HLB := Lib.hid hlb; have HPB := Lib.hid hpb; have HLT := Lib.hid hlt; have HWR := Lib.hid hwr; have HPT := Lib.hid hpt; have HS1 := Lib.hid hs1; have HFPA := Lib.hid hfa; have HFPB := Lib.hid hfb; have FL1 := Lib.hid fl1; have FL2 := Lib.hid fl2
          clear hsa hsb hlb hpb hlt hwr hpt hs1 hfa hfb fl1 fl2 HMA HMB HOA HOB HFA HFB HM1 HM2 HT1 HT2
          have e8a : ((acts.length : Int) + 6 != 6 + (acts.length : Int)) = false := by rw [bne_eq_false_iff_eq]; omega
          have e8b : ((acts2.length : Int) + 6 != 6 + (acts2.length : Int)) = false := by rw [bne_eq_false_iff_eq]; omega
          go_wp2_with (first
            | (go_at_call 14; refine (num_any _ _).mono ?_; rintro e wq ⟨rfl, rfl⟩)
            | (go_at_call 24; with_reducible refine (HSA.out _).mono ?_; rintro e w5 ⟨⟨gl, cl, rfl, hcl, hrl⟩, hb5⟩; clear x0 x1 x2 x3 x4 x5 y0 y1 y2 y3 y4 y5; replace HP := HP.next hb5; obtain ⟨x0, x1, x2, x3, x4, x5, y0, y1, y2, y3, y4, y5⟩ := HP.cells; clear hb5)
            | (go_at_call 24; with_reducible refine (HSB.out _).mono ?_; rintro e w6 ⟨⟨gm, cm, rfl, hcm, hrm⟩, hb6⟩; clear x0 x1 x2 x3 x4 x5 y0 y1 y2 y3 y4 y5; replace HP := HP.next hb6; obtain ⟨x0, x1, x2, x3, x4, x5, y0, y1, y2, y3, y4, y5⟩ := HP.cells; replace hrl := hrl.below hb6; clear hb6))
          clear e8a e8b
          have HNA := Lib.hid (show ∀ j x, LA[j]? = some x → (LA ++ [(⟨#[]⟩ : ByteArray)])[0 + j]? = some x from fun j x hx => by rw [Nat.zero_add, List.getElem?_append_left (List.getElem?_eq_some_iff.1 hx).1]; exact hx)
          have HNB := Lib.hid (show ∀ j x, (LB.drop 5)[j]? = some x → (LB ++ [(⟨#[]⟩ : ByteArray)])[5 + j]? = some x from fun j x hx => by
            rw [List.getElem?_drop] at hx
            rw [List.getElem?_append_left (List.getElem?_eq_some_iff.1 hx).1]; exact hx)
          have HLA := Lib.hid (show acts.length + 5 = LA.length by have := FL1.out; omega)
          have HLB5 := Lib.hid (show acts2.length = (LB.drop 5).length by have := FL2.out; rw [List.length_drop]; omega)
          have HLA2 := Lib.hid (show LA.length ≤ 1000 by have := FL1.out; omega)
          have b1 : (0 : Int) ≤ (acts.length : Int) + 5 := by omega
          have b2 : (acts.length : Int) + 5 ≤ (cl : Int) := by omega
          have b3 : (5 : Int) ≤ (acts2.length : Int) + 5 := by omega
          have b4 : (acts2.length : Int) + 5 ≤ (cm : Int) := by omega
          have b5 : ¬ cl = 0 := by omega
          have b6 : ¬ cm = 5 := by omega
          have q1 : IntKind.i64.wrap ((acts.length : Int) + 6 - 1) = (acts.length : Int) + 5 := by rw [IntKind.wrap_i64]; omega
          have q2 : IntKind.i64.wrap ((acts2.length : Int) + 6 - 1) = (acts2.length : Int) + 5 := by rw [IntKind.wrap_i64]; omega
          have q3 : IntKind.i64.wrap ((acts.length : Int) + 5) = (acts.length : Int) + 5 := by rw [IntKind.wrap_i64]; omega
          have q4 : IntKind.i64.wrap ((acts2.length : Int) + 5) = (acts2.length : Int) + 5 := by rw [IntKind.wrap_i64]; omega
          go_cut [13, 14, 15] (fun p n0 g0 wx => n0 = .int .i64 0 ∧ g0 = .int .i64 0 ∧ ∃ G pB cB, p = .pointer (some ⟨G, 0, none⟩) ∧ Hid (Blk wx G 63 [.int .i64 nodes, .int .i64 capacity, .int .i64 frames, .int .i64 quorum, .int .i64 delay, .slice pB (acts.length + acts2.length) cB]) ∧ Hid (ActsAt wx pB (acts ++ acts2)) ∧ Hid (PW w wx ⟨⟨nodes, capacity, frames, quorum, delay⟩, acts⟩ ⟨⟨nodes2, capacity2, frames2, quorum2, delay2⟩, acts2⟩ pa pb ca cb) ∧ Hid (StrRow wx gl (LA ++ [⟨#[]⟩])))
          case first =>
            clear x0 x1 x2 x3 x4 x5 y0 y1 y2 y3 y4 y5
            go_region_held3 (fun _ => True) (trivial) (first
              | (go_at_call 40
                 refine (HLB.out _ p8 c8 _ (by simp) (by repeat (first | with_reducible exact hst8 | with_reducible refine StrAt.drew ?_ | with_reducible refine StrAt.alloc ?_ _))).mono ?_
                 rintro e w9 ⟨rfl, hb9⟩
                 have HB9 : Below w6.heap.size w6 w9 := bel_next (by repeat (first | with_reducible exact HB10 | with_reducible exact HB9 | with_reducible exact HB8 | with_reducible exact HB7 | with_reducible exact Below.refl _ _ | with_reducible refine Below.drew ?_ | with_reducible refine bel_alloc ?_ _)) hb9
                 try (refine (show Zb w6 w9 w6.heap.size → _ from fun hz9 => ?_) ?_; rotate_left; focus (refine Zb.next ?_ hb9; (repeat (first | with_reducible exact hz9 | with_reducible exact hz8 | with_reducible exact hz7 | with_reducible exact Zb.newd (by repeat (first | with_reducible exact HB10 | with_reducible exact HB9 | with_reducible exact HB8 | with_reducible exact HB7 | with_reducible exact Below.refl _ _ | with_reducible refine Below.drew ?_ | with_reducible refine bel_alloc ?_ _)) | with_reducible exact Zb.new (by repeat (first | with_reducible exact HB10 | with_reducible exact HB9 | with_reducible exact HB8 | with_reducible exact HB7 | with_reducible exact Below.refl _ _ | with_reducible refine Below.drew ?_ | with_reducible refine bel_alloc ?_ _)) | with_reducible refine Zb.drew ?_ | with_reducible refine Zb.alloc ?_ _)); done))
                 try (refine (show Zb w6 w9 w7.heap.size → _ from fun hz9 => ?_) ?_; rotate_left; focus (refine Zb.next ?_ hb9; (repeat (first | with_reducible exact hz9 | with_reducible exact hz8 | with_reducible exact hz7 | with_reducible exact Zb.newd (by repeat (first | with_reducible exact HB10 | with_reducible exact HB9 | with_reducible exact HB8 | with_reducible exact HB7 | with_reducible exact Below.refl _ _ | with_reducible refine Below.drew ?_ | with_reducible refine bel_alloc ?_ _)) | with_reducible exact Zb.new (by repeat (first | with_reducible exact HB10 | with_reducible exact HB9 | with_reducible exact HB8 | with_reducible exact HB7 | with_reducible exact Below.refl _ _ | with_reducible refine Below.drew ?_ | with_reducible refine bel_alloc ?_ _)) | with_reducible refine Zb.drew ?_ | with_reducible refine Zb.alloc ?_ _)); done))
                 try (refine (show Zb w6 w9 w8.heap.size → _ from fun hz9 => ?_) ?_; rotate_left; focus (refine Zb.next ?_ hb9; (repeat (first | with_reducible exact hz9 | with_reducible exact hz8 | with_reducible exact hz7 | with_reducible exact Zb.newd (by repeat (first | with_reducible exact HB10 | with_reducible exact HB9 | with_reducible exact HB8 | with_reducible exact HB7 | with_reducible exact Below.refl _ _ | with_reducible refine Below.drew ?_ | with_reducible refine bel_alloc ?_ _)) | with_reducible exact Zb.new (by repeat (first | with_reducible exact HB10 | with_reducible exact HB9 | with_reducible exact HB8 | with_reducible exact HB7 | with_reducible exact Below.refl _ _ | with_reducible refine Below.drew ?_ | with_reducible refine bel_alloc ?_ _)) | with_reducible refine Zb.drew ?_ | with_reducible refine Zb.alloc ?_ _)); done)))
              | (go_at_call 36
                 refine (HPB.out _ (HP.env.below (by repeat (first | with_reducible exact HB10 | with_reducible exact HB9 | with_reducible exact HB8 | with_reducible exact HB7 | with_reducible exact Below.refl _ _ | with_reducible refine Below.drew ?_ | with_reducible refine bel_alloc ?_ _)))).mono ?_
                 rintro e w10 ⟨⟨pB, cB, lB, rfl, hlB, hac⟩, hb10⟩
                 have HLL := Lib.hid hlB
                 clear hlB
                 have HB10 : Below w6.heap.size w6 w10 := bel_next (by repeat (first | with_reducible exact HB10 | with_reducible exact HB9 | with_reducible exact HB8 | with_reducible exact HB7 | with_reducible exact Below.refl _ _ | with_reducible refine Below.drew ?_ | with_reducible refine bel_alloc ?_ _)) hb10
                 try (refine (show Zq w6 w10 w6.heap.size (.slice pB (acts.length + acts2.length) cB) lB → _ from fun hz10 => ?_) ?_; rotate_left; focus (refine Zb.nextq hb10 hac ?_; (repeat (first | with_reducible exact hz9 | with_reducible exact hz8 | with_reducible exact hz7 | with_reducible exact Zb.newd (by repeat (first | with_reducible exact HB10 | with_reducible exact HB9 | with_reducible exact HB8 | with_reducible exact HB7 | with_reducible exact Below.refl _ _ | with_reducible refine Below.drew ?_ | with_reducible refine bel_alloc ?_ _)) | with_reducible exact Zb.new (by repeat (first | with_reducible exact HB10 | with_reducible exact HB9 | with_reducible exact HB8 | with_reducible exact HB7 | with_reducible exact Below.refl _ _ | with_reducible refine Below.drew ?_ | with_reducible refine bel_alloc ?_ _)) | with_reducible refine Zb.drew ?_ | with_reducible refine Zb.alloc ?_ _)); done))
                 try (refine (show Zq w6 w10 w7.heap.size (.slice pB (acts.length + acts2.length) cB) lB → _ from fun hz10 => ?_) ?_; rotate_left; focus (refine Zb.nextq hb10 hac ?_; (repeat (first | with_reducible exact hz9 | with_reducible exact hz8 | with_reducible exact hz7 | with_reducible exact Zb.newd (by repeat (first | with_reducible exact HB10 | with_reducible exact HB9 | with_reducible exact HB8 | with_reducible exact HB7 | with_reducible exact Below.refl _ _ | with_reducible refine Below.drew ?_ | with_reducible refine bel_alloc ?_ _)) | with_reducible exact Zb.new (by repeat (first | with_reducible exact HB10 | with_reducible exact HB9 | with_reducible exact HB8 | with_reducible exact HB7 | with_reducible exact Below.refl _ _ | with_reducible refine Below.drew ?_ | with_reducible refine bel_alloc ?_ _)) | with_reducible refine Zb.drew ?_ | with_reducible refine Zb.alloc ?_ _)); done))
                 try (refine (show Zq w6 w10 w8.heap.size (.slice pB (acts.length + acts2.length) cB) lB → _ from fun hz10 => ?_) ?_; rotate_left; focus (refine Zb.nextq hb10 hac ?_; (repeat (first | with_reducible exact hz9 | with_reducible exact hz8 | with_reducible exact hz7 | with_reducible exact Zb.newd (by repeat (first | with_reducible exact HB10 | with_reducible exact HB9 | with_reducible exact HB8 | with_reducible exact HB7 | with_reducible exact Below.refl _ _ | with_reducible refine Below.drew ?_ | with_reducible refine bel_alloc ?_ _)) | with_reducible exact Zb.new (by repeat (first | with_reducible exact HB10 | with_reducible exact HB9 | with_reducible exact HB8 | with_reducible exact HB7 | with_reducible exact Below.refl _ _ | with_reducible refine Below.drew ?_ | with_reducible refine bel_alloc ?_ _)) | with_reducible refine Zb.drew ?_ | with_reducible refine Zb.alloc ?_ _)); done))
                 try (refine (show Zq w6 w10 w9.heap.size (.slice pB (acts.length + acts2.length) cB) lB → _ from fun hz10 => ?_) ?_; rotate_left; focus (refine Zb.nextq hb10 hac ?_; (repeat (first | with_reducible exact hz9 | with_reducible exact hz8 | with_reducible exact hz7 | with_reducible exact Zb.newd (by repeat (first | with_reducible exact HB10 | with_reducible exact HB9 | with_reducible exact HB8 | with_reducible exact HB7 | with_reducible exact Below.refl _ _ | with_reducible refine Below.drew ?_ | with_reducible refine bel_alloc ?_ _)) | with_reducible exact Zb.new (by repeat (first | with_reducible exact HB10 | with_reducible exact HB9 | with_reducible exact HB8 | with_reducible exact HB7 | with_reducible exact Below.refl _ _ | with_reducible refine Below.drew ?_ | with_reducible refine bel_alloc ?_ _)) | with_reducible refine Zb.drew ?_ | with_reducible refine Zb.alloc ?_ _)); done))
                 try obtain ⟨z0, z1, z2, z3, z4, z5, zf⟩ := hz10.zb.cells
                 have hzl := Zb.new HB10
                 obtain ⟨u0, u1, u2, u3, u4, u5, uf⟩ := hzl.cells)
              | (refine step_append_s rfl (.const (.slice none 0 0)) (.tmp 67) rfl w6.heap.size (.slice none 0 0) [] ⟨gl, 0, none⟩ (acts.length + 5) cl LA (by rfl) (by simp [Act.eval] <;> rfl) (OwnS.nil _ _) (by simp) (bel_size (a := w6) (by repeat (first | with_reducible exact HB10 | with_reducible exact HB9 | with_reducible exact HB8 | with_reducible exact HB7 | with_reducible exact Below.refl _ _ | with_reducible refine Below.drew ?_ | with_reducible refine bel_alloc ?_ _))) HLA.out (by omega) (StrRow.news (by repeat (first | with_reducible exact hrl.below HB9 | with_reducible exact hrl.below HB8 | with_reducible exact hrl.below HB7 | with_reducible exact hrl | with_reducible refine StrRow.drew ?_ | with_reducible refine StrRow.alloc ?_ _)) 0 HNA.out) ?_
                 intro v7 w7 ho7 hg7
                 rw [List.nil_append] at ho7
                 have HB7 : Below w6.heap.size w6 w7 := bel_turn (by repeat (first | with_reducible exact HB10 | with_reducible exact HB9 | with_reducible exact HB8 | with_reducible exact HB7 | with_reducible exact Below.refl _ _ | with_reducible refine Below.drew ?_ | with_reducible refine bel_alloc ?_ _)) hg7 (fun k e => by cases e)
                 try (refine (show Zb w6 w7 w6.heap.size → _ from fun hz7 => ?_) ?_; rotate_left; focus (refine Zb.turn ?_ hg7 (by simp [Value.ownBlock]); (repeat (first | with_reducible exact hz9 | with_reducible exact hz8 | with_reducible exact hz7 | with_reducible exact Zb.newd (by repeat (first | with_reducible exact HB10 | with_reducible exact HB9 | with_reducible exact HB8 | with_reducible exact HB7 | with_reducible exact Below.refl _ _ | with_reducible refine Below.drew ?_ | with_reducible refine bel_alloc ?_ _)) | with_reducible exact Zb.new (by repeat (first | with_reducible exact HB10 | with_reducible exact HB9 | with_reducible exact HB8 | with_reducible exact HB7 | with_reducible exact Below.refl _ _ | with_reducible refine Below.drew ?_ | with_reducible refine bel_alloc ?_ _)) | with_reducible refine Zb.drew ?_ | with_reducible refine Zb.alloc ?_ _)); done)))
              | (refine step_append_s rfl (.tmp 68) (.tmp 73) rfl w6.heap.size v7 LA ⟨gm, 5, none⟩ acts2.length (cm - 5) (LB.drop 5) (by rfl) (by simp [Act.eval] <;> rfl) (by repeat (first | with_reducible exact ho7 | with_reducible refine OwnS.drew ?_ | with_reducible refine OwnS.alloc ?_ _)) (by have := HLA2.out; omega) (bel_size (a := w6) (by repeat (first | with_reducible exact HB10 | with_reducible exact HB9 | with_reducible exact HB8 | with_reducible exact HB7 | with_reducible exact Below.refl _ _ | with_reducible refine Below.drew ?_ | with_reducible refine bel_alloc ?_ _))) HLB5.out (by omega) (StrRow.news (by repeat (first | with_reducible exact hrm.below HB9 | with_reducible exact hrm.below HB8 | with_reducible exact hrm.below HB7 | with_reducible exact hrm | with_reducible refine StrRow.drew ?_ | with_reducible refine StrRow.alloc ?_ _)) 5 HNB.out) ?_
                 intro v8 w8 ho8 hg8
                 have HB8 : Below w6.heap.size w6 w8 := bel_turn (by repeat (first | with_reducible exact HB10 | with_reducible exact HB9 | with_reducible exact HB8 | with_reducible exact HB7 | with_reducible exact Below.refl _ _ | with_reducible refine Below.drew ?_ | with_reducible refine bel_alloc ?_ _)) hg8 (fun k e => own_size ho7 k e)
                 try (refine (show Zb w6 w8 w6.heap.size → _ from fun hz8 => ?_) ?_; rotate_left; focus (refine Zb.turn ?_ hg8 (Zb.own (w0 := w6) (base := w6.heap.size) (v := v7) (l := LA) ?_ (by repeat (first | with_reducible exact ho7 | with_reducible refine OwnS.drew ?_ | with_reducible refine OwnS.alloc ?_ _))) <;> (repeat (first | with_reducible exact hz9 | with_reducible exact hz8 | with_reducible exact hz7 | with_reducible exact Zb.newd (by repeat (first | with_reducible exact HB10 | with_reducible exact HB9 | with_reducible exact HB8 | with_reducible exact HB7 | with_reducible exact Below.refl _ _ | with_reducible refine Below.drew ?_ | with_reducible refine bel_alloc ?_ _)) | with_reducible exact Zb.new (by repeat (first | with_reducible exact HB10 | with_reducible exact HB9 | with_reducible exact HB8 | with_reducible exact HB7 | with_reducible exact Below.refl _ _ | with_reducible refine Below.drew ?_ | with_reducible refine bel_alloc ?_ _)) | with_reducible refine Zb.drew ?_ | with_reducible refine Zb.alloc ?_ _)); done))
                 try (refine (show Zb w6 w8 w7.heap.size → _ from fun hz8 => ?_) (Zb.turn (Zb.new (W := w7) HB7) hg8 (Zb.own (w0 := w6) (base := w6.heap.size) (v := v7) (l := LA) (Zb.new (W := w7) HB7) (OwnS.alloc ho7 _))))
                 obtain ⟨p8, c8, rfl, hst8⟩ := ho8.str))
            all_goals
              go_wp2_with fail
              go_meet
              clear u0 u1 u2 u3 u4 u5 uf hzl
              first
              | (have kk := Zq.fill hz10 HB10 nodes capacity frames quorum delay
                 with_reducible refine ⟨rfl, rfl, _, pB, cB, rfl, Lib.hid (kk _ rfl).1, Lib.hid ?_, Lib.hid (HP.next (kk _ rfl).2.2), Lib.hid (hrl.below (kk _ rfl).2.2)⟩
                 rw [HLL.out]
                 with_reducible exact (kk _ rfl).2.1)
              | (with_reducible refine ⟨rfl, rfl, _, pB, cB, rfl, Lib.hid (Blk.new w10 _ [.int .i64 nodes, .int .i64 capacity, .int .i64 frames, .int .i64 quorum, .int .i64 delay, .slice pB (acts.length + acts2.length) cB]), Lib.hid ?_, Lib.hid (HP.next (bel_alloc HB10 _)), Lib.hid (hrl.below (bel_alloc HB10 _))⟩
                 rw [HLL.out]
                 with_reducible exact acrow_at (hac.alloc _))
          case rest =>
            clear b1 b2 b3 b4 b5 b6 q1 q2 q3 q4 HP hrl hrm hcm x0 x1 x2 x3 x4 x5 y0 y1 y2 y3 y4 y5 HLA HLB5 HLA2 HNA HNB HSA HSB HLB HPB
            obtain ⟨rfl, rfl, G, pB, cB, rfl, HX, HAT, HP0, HRL⟩ := hcut
            have HP := HP0.out
            clear HP0
            obtain ⟨x0, x1, x2, x3, x4, x5, x6, x7, x8, x9, x10, x11⟩ := HP.cells
            have lb1 : acts.length ≤ 1000000 := by omega
            have ne1 : wc.heap.size ≠ w.heap.size := World.new_ne wc _ x0
            have ne2 : wc.heap.size ≠ w.heap.size + 1 := World.new_ne wc _ x11
            have lb2 : acts2.length ≤ 1000000 := by omega
            go_wp2_with fail
            go_cut [16] (fun p wx => ∃ g pv c l2, p = .pointer (some ⟨g, 0, none⟩) ∧ Hid (Blk wx g 63 [.int .i64 nodes, .int .i64 capacity, .int .i64 frames, .int .i64 quorum, .int .i64 delay, .slice pv (List.length l2) c]) ∧ Hid (List.map (fun x : ArV => x.1) l2 = acts ++ acts2) ∧ Hid (ActsAt wx pv (acts ++ acts2)) ∧ Hid (Below wc.heap.size wc wx))
            case first =>
              go_region_held3 (fun W => W.cell? ⟨w.heap.size, 0, none⟩ = some (.int .i64 nodes) ∧ W.cell? ⟨w.heap.size, 1, none⟩ = some (.int .i64 capacity) ∧ W.cell? ⟨w.heap.size, 2, none⟩ = some (.int .i64 frames) ∧ W.cell? ⟨w.heap.size, 3, none⟩ = some (.int .i64 quorum) ∧ W.cell? ⟨w.heap.size, 4, none⟩ = some (.int .i64 delay) ∧ W.cell? ⟨w.heap.size, 5, none⟩ = some (.slice pa acts.length ca) ∧ W.cell? ⟨w.heap.size + 1, 5, none⟩ = some (.slice pb acts2.length cb)) (first | with_reducible exact ⟨t0, t1, t2, t3, t4, t5, t11⟩ | with_reducible exact ⟨r0, r1, r2, r3, r4, r5, r11⟩ | go_keep) (first
                | (refine step_append_at rfl (.const (.slice none 0 0)) (.tmp 83) rfl wc.heap.size (.slice none 0 0) [] pa acts.length ca acts (by rfl) (by simp [Act.eval] <;> rfl) (by repeat (first | with_reducible exact hr12 | with_reducible exact AcRow.nil _ _ _ | with_reducible refine AcRow.drew ?_ | with_reducible refine AcRow.alloc ?_ _)) (by simp) (bel_size (a := wc) (by repeat (first | with_reducible exact HB13 | with_reducible exact HB12 | with_reducible exact Below.refl _ _ | with_reducible refine Below.drew ?_ | with_reducible refine bel_alloc ?_ _))) rfl lb1 wc (Nat.le_refl _) HP.aa (by repeat (first | with_reducible exact HB13 | with_reducible exact HB12 | with_reducible exact Below.refl _ _ | with_reducible refine Below.drew ?_ | with_reducible refine bel_alloc ?_ _)) (PkLow.nil _) ?_
                   intro p12 c12 w12 l12 hlo12 hl12 hn12 hr12 hg12
                   have HL12 := Lib.hid hl12
                   have HN12 := Lib.hid hn12
                   clear hl12 hn12
                   have HB12 : Below wc.heap.size wc w12 := bel_turn (by repeat (first | with_reducible exact HB13 | with_reducible exact HB12 | with_reducible exact Below.refl _ _ | with_reducible refine Below.drew ?_ | with_reducible refine bel_alloc ?_ _)) hg12 (fun k e => by cases e)
                   obtain ⟨r0, r1, r2, r3, r4, r5, r6, r7, r8, r9, r10, r11⟩ := (HP.next HB12).cells
                   have ne3 : w12.heap.size ≠ w.heap.size := World.new_ne w12 _ r0
                   have ne4 : w12.heap.size ≠ w.heap.size + 1 := World.new_ne w12 _ r11
                   clear r6 r7 r8 r9 r10 x0 x1 x2 x3 x4 x5 x6 x7 x8 x9 x10 x11
                   try (refine (show Zb wc w12 wc.heap.size → _ from fun hz12 => ?_) ?_; rotate_left; focus (refine Zb.turn ?_ hg12 (by simp [Value.ownBlock]); (repeat (first | with_reducible exact hz12 | with_reducible exact Zb.newd (by repeat (first | with_reducible exact HB13 | with_reducible exact HB12 | with_reducible exact Below.refl _ _ | with_reducible refine Below.drew ?_ | with_reducible refine bel_alloc ?_ _)) | with_reducible exact Zb.new (by repeat (first | with_reducible exact HB13 | with_reducible exact HB12 | with_reducible exact Below.refl _ _ | with_reducible refine Below.drew ?_ | with_reducible refine bel_alloc ?_ _)) | with_reducible refine Zb.drew ?_ | with_reducible refine Zb.alloc ?_ _)); done)))
                | (refine step_append_at rfl (.tmp 84) (.tmp 86) rfl wc.heap.size (.slice p12 l12.length c12) l12 pb acts2.length cb acts2 (by rfl) (by simp [Act.eval] <;> rfl) (by repeat (first | with_reducible exact hr12 | with_reducible exact AcRow.nil _ _ _ | with_reducible refine AcRow.drew ?_ | with_reducible refine AcRow.alloc ?_ _)) (by have := HN12.out; simp at this; omega) (bel_size (a := wc) (by repeat (first | with_reducible exact HB13 | with_reducible exact HB12 | with_reducible exact Below.refl _ _ | with_reducible refine Below.drew ?_ | with_reducible refine bel_alloc ?_ _))) rfl lb2 wc (Nat.le_refl _) HP.bb (by repeat (first | with_reducible exact HB13 | with_reducible exact HB12 | with_reducible exact Below.refl _ _ | with_reducible refine Below.drew ?_ | with_reducible refine bel_alloc ?_ _)) hlo12 ?_
                   intro p13 c13 w13 l13 hlo13 hl13 hn13 hr13 hg13
                   have HL13 := Lib.hid hl13
                   clear hl13 hn13
                   have HB13 : Below wc.heap.size wc w13 := bel_turn (by repeat (first | with_reducible exact HB13 | with_reducible exact HB12 | with_reducible exact Below.refl _ _ | with_reducible refine Below.drew ?_ | with_reducible refine bel_alloc ?_ _)) hg13 (fun k e => (hr12.lt k e).1)
                   obtain ⟨t0, t1, t2, t3, t4, t5, t6, t7, t8, t9, t10, t11⟩ := (HP.next HB13).cells
                   clear t6 t7 t8 t9 t10 r0 r1 r2 r3 r4 r5 r11
                   try (refine (show Zr wc w13 wc.heap.size (.slice p13 l13.length c13) l13 → _ from fun hz13 => ?_) ?_; rotate_left; focus (refine ⟨Zb.turn ?_ hg13 (acrow_ne hr12 hz12.row (by simp)), hr13, hlo13⟩; (repeat (first | with_reducible exact hz12 | with_reducible exact Zb.newd (by repeat (first | with_reducible exact HB13 | with_reducible exact HB12 | with_reducible exact Below.refl _ _ | with_reducible refine Below.drew ?_ | with_reducible refine bel_alloc ?_ _)) | with_reducible exact Zb.new (by repeat (first | with_reducible exact HB13 | with_reducible exact HB12 | with_reducible exact Below.refl _ _ | with_reducible refine Below.drew ?_ | with_reducible refine bel_alloc ?_ _)) | with_reducible refine Zb.drew ?_ | with_reducible refine Zb.alloc ?_ _)); done))
                   try (refine (show Zr wc w13 w12.heap.size (.slice p13 l13.length c13) l13 → _ from fun hz13 => ?_) ⟨Zb.turn (Zb.new (W := w12) HB12) hg13 (acrow_ne (hr12.alloc _) (Zb.new (W := w12) HB12).row (by simp)), hr13, hlo13⟩)
                   try obtain ⟨z0, z1, z2, z3, z4, z5, zf⟩ := hz13.zb.cells
                   have hzl := Zb.new HB13
                   obtain ⟨u0, u1, u2, u3, u4, u5, uf⟩ := hzl.cells))
              all_goals
                go_wp2_with fail
                go_meet
                clear u0 u1 u2 u3 u4 u5 uf hzl
                have hm : List.map (fun x : ArV => x.1) l13 = acts ++ acts2 := by rw [HL13.out, HL12.out]; rfl
                first
                | (have kk := Zr.fill hz13 HB13 nodes capacity frames quorum delay
                   with_reducible refine ⟨_, p13, c13, l13, rfl, Lib.hid (kk _ rfl).1, Lib.hid hm, Lib.hid ?_, Lib.hid (kk _ rfl).2.2⟩
                   rw [← hm]
                   with_reducible exact (kk _ rfl).2.1)
                | (with_reducible refine ⟨_, p13, c13, l13, rfl, Lib.hid (Blk.new w13 _ [.int .i64 nodes, .int .i64 capacity, .int .i64 frames, .int .i64 quorum, .int .i64 delay, .slice p13 (List.length l13) c13]), Lib.hid hm, Lib.hid ?_, Lib.hid (bel_alloc HB13 _)⟩
                   rw [← hm]
                   with_reducible exact acrow_at (hr13.alloc _))
            case rest =>
              clear x0 x1 x2 x3 x4 x5 x6 x7 x8 x9 x10 x11
              obtain ⟨G2, pv, cv, l2, rfl, HY, HM, HA2, HB2⟩ := hcut
              have hl2 : List.length l2 = acts.length + acts2.length := by have := congrArg List.length HM.out; simpa using this
              rw [hl2] at HY
              have hx := HX.out.below HB2.out HX.out.lt
              have hy := HY.out
              have hat := HAT.out.below HB2.out
              have hrl := HRL.out.below HB2.out
              replace HP := HP.next HB2.out
              have hfp : fewP (acts ++ acts2) := fun a ha => by
                rcases List.mem_append.1 ha with ha | ha
                · exact HFPA.out a ha
                · exact HFPB.out a ha
              have hsm := fun W h1 h2 => HS1.out (acts ++ acts2) (by rw [List.length_append]; omega) hfp pB pv cB cv (acts.length + acts2.length) (by rw [List.length_append]) W h1 h2
              have HSM := Lib.hid hsm
              have HAT2 := Lib.hid hat
              have HRL2 := Lib.hid hrl
              have e0 := hx.cell 0; have e1 := hx.cell 1; have e2 := hx.cell 2; have e3 := hx.cell 3; have e4 := hx.cell 4; have e5 := hx.cell 5
              have f0 := hy.cell 0; have f1 := hy.cell 1; have f2 := hy.cell 2; have f3 := hy.cell 3; have f4 := hy.cell 4; have f5 := hy.cell 5
              clear hsm hfp hl2 hx hy hat hrl HM HX HY HAT HRL HB2 HFPB
              go_upto_region 14 with (first
                | (go_at_call 14; refine (num_any _ _).mono ?_; rintro e wq ⟨rfl, rfl⟩)
                | (go_at_call 34; refine (HSM.out _ HAT2.out HA2.out).mono ?_; rintro e w14 ⟨rfl, hb14⟩))
              replace HP := HP.next hb14
              have HRL := Lib.hid (HRL2.out.below hb14)
              clear e0 e1 e2 e3 e4 e5 f0 f1 f2 f3 f4 f5 HRL2 HAT2 HA2 hb14 HSM
              have fl1 := FL1.out
              have hn : n < 0 ∨ (acts.length : Int) + 5 ≤ n ∨ (0 ≤ n ∧ n < 5 ∧ n < (acts.length : Int) + 5) ∨ (5 ≤ n ∧ n < (acts.length : Int) + 5) := by omega
              rcases hn with hn | hn | ⟨hn, hn5, hnl⟩ | ⟨hn5, hnl⟩
              · go_wp2_with (go_at_call 11; refine (known_any _ HP.env).mono ?_; rintro e wk ⟨rfl, hbk⟩)
                go_ret
                exact ⟨rfl, (HP.next hbk).below⟩
              · have c1 : ¬ n < 0 := by omega
                go_wp2_with (go_at_call 11; refine (known_any _ HP.env).mono ?_; rintro e wk ⟨rfl, hbk⟩)
                go_ret
                exact ⟨rfl, (HP.next hbk).below⟩
              · obtain ⟨k, rfl⟩ : ∃ k : Nat, n = k := ⟨n.toNat, by omega⟩
                have hk5 : k < 5 := by omega
                have hkl : k ≤ 5 + acts.length := by omega
                have c1 : ¬ (k : Int) < 0 := by omega
                have c2 : ¬ (acts.length : Int) + 5 ≤ (k : Int) := by omega
                have c3 : (k : Int) ≤ (cl : Int) := by omega
                have c4 : ¬ cl = 0 := by omega
                have hstr := HRL.out.strL k (by omega)
                have HSTR := Lib.hid hstr
                have HW2 := Lib.hid (HWR.out k hk5)
                have HL2 := Lib.hid (HLT.out k hkl)
                clear hstr fl1 hn
                go_wp2_with (first
                  | (go_at_call 40; refine (HL2.out _ _ _ HSTR.out).mono ?_; rintro e w15 ⟨rfl, hb15⟩; have HP15 := HP.next hb15)
                  | (go_at_call 41; refine (HW2.out _ HP15.env).mono ?_; rintro e w16 ⟨rfl, hb16⟩; have HP16 := HP15.next hb16)
                  | (go_at_call 11; refine (known_any _ HP16.env).mono ?_; rintro e wk ⟨rfl, hbk⟩))
                go_ret
                exact ⟨rfl, (HP16.next hbk).below⟩
              · obtain ⟨k, rfl⟩ : ∃ k : Nat, n = ((k + 5 : Nat) : Int) := ⟨(n - 5).toNat, by omega⟩
                have hkl : k + 5 ≤ 5 + acts.length := by omega
                have hka : k < acts.length := by omega
                have hne : acts ≠ [] := fun e => by rw [e] at hka; simp at hka
                obtain ⟨ga, oa, rfl, _, _⟩ := HP.aa hne
                have c1 : ¬ (k : Int) + 5 < 0 := by omega
                have c2 : ¬ (acts.length : Int) + 5 ≤ (k : Int) + 5 := by omega
                have c3 : (k : Int) + 5 ≤ (cl : Int) := by omega
                have c4 : ¬ cl = 0 := by omega
                have c5 : ¬ (k : Int) + 5 < 5 := by omega
                have c6 : ¬ ca = 0 := by omega
                have c7 : (k : Int) ≤ (ca : Int) := by omega
                have c8 : (0 : Int) ≤ (k : Int) + 5 := by omega
                have hstr := HRL.out.strL (k + 5) (by omega)
                have HSTR := Lib.hid hstr
                have HL2 := Lib.hid (HLT.out (k + 5) hkl)
                have hpt := HPT.out (k + 5) (by omega) hkl
                simp only [Nat.add_sub_cancel] at hpt
                have HP2 := Lib.hid hpt
                have htk : (acts.take k).length = k := by rw [List.length_take]; omega
                have hfk : fewP (acts.take k) := fun a ha => HFPA.out a (List.mem_of_mem_take ha)
                have hsk := fun W p q c d h1 h2 => HS1.out (acts.take k) (by omega) hfk p q c d k htk.symm W h1 h2
                have HSK := Lib.hid hsk
                clear hstr fl1 hpt htk hfk hsk hne
                obtain ⟨x0, x1, x2, x3, x4, x5, y0, y1, y2, y3, y4, y5⟩ := HP.cells
                go_upto_region 19 with (first
                  | (go_at_call 40; refine (HL2.out _ _ _ HSTR.out).mono ?_; rintro e w15 ⟨rfl, hb15⟩; have HP15 := HP.next hb15)
                  | (go_at_call 36; refine (HP2.out _ HP15.env).mono ?_; rintro e w16 ⟨⟨pk, ck, rfl, hak⟩, hb16⟩; have HP16 := HP15.next hb16))
                have q1 : IntKind.i64.wrap ((k : Int) + 5 - 5) = (k : Int) := by rw [IntKind.wrap_i64]; omega
                have q2 : IntKind.i64.wrap (k : Int) = (k : Int) := by rw [IntKind.wrap_i64]; omega
                have hbA : Below w16.heap.size w16 (w16.alloc (.cells #[.int .i64 nodes, .int .i64 capacity, .int .i64 frames, .int .i64 quorum, .int .i64 delay, .slice pk k ck] 63)) := (Below.refl _ _).alloc (Nat.le_refl _) _
                have HPA := HP16.next hbA
                have hxA := Blk.new w16 63 [.int .i64 nodes, .int .i64 capacity, .int .i64 frames, .int .i64 quorum, .int .i64 delay, .slice pk k ck]
                have hakA := hak.below hbA
                have HAK := Lib.hid hakA
                clear x0 x1 x2 x3 x4 x5 y0 y1 y2 y3 y4 y5 hbA hakA hak
                have a0 := hxA.cell 0; have a1 := hxA.cell 1; have a2 := hxA.cell 2; have a3 := hxA.cell 3; have a4 := hxA.cell 4; have a5 := hxA.cell 5
                obtain ⟨ax0, ax1, ax2, ax3, ax4, ax5, ax6, ax7, ax8, ax9, ax10, ax11⟩ := HPA.cells
                clear ax6 ax7 ax8 ax9 ax10 ax11
                go_region_held3 (fun W => W.cell? ⟨w16.heap.size, 0, none⟩ = some (.int .i64 nodes) ∧ W.cell? ⟨w16.heap.size, 1, none⟩ = some (.int .i64 capacity) ∧ W.cell? ⟨w16.heap.size, 2, none⟩ = some (.int .i64 frames) ∧ W.cell? ⟨w16.heap.size, 3, none⟩ = some (.int .i64 quorum) ∧ W.cell? ⟨w16.heap.size, 4, none⟩ = some (.int .i64 delay) ∧ W.cell? ⟨w16.heap.size, 5, none⟩ = some (.slice pk k ck) ∧ W.cell? ⟨w.heap.size, 0, none⟩ = some (.int .i64 nodes) ∧ W.cell? ⟨w.heap.size, 1, none⟩ = some (.int .i64 capacity) ∧ W.cell? ⟨w.heap.size, 2, none⟩ = some (.int .i64 frames) ∧ W.cell? ⟨w.heap.size, 3, none⟩ = some (.int .i64 quorum) ∧ W.cell? ⟨w.heap.size, 4, none⟩ = some (.int .i64 delay) ∧ W.cell? ⟨w.heap.size, 5, none⟩ = some (.slice (some ⟨ga, oa, none⟩) acts.length ca)) (first | with_reducible exact ⟨s0, s1, s2, s3, s4, s5, sx0, sx1, sx2, sx3, sx4, sx5⟩ | with_reducible exact ⟨r0, r1, r2, r3, r4, r5, rx0, rx1, rx2, rx3, rx4, rx5⟩ | go_keep) (first
                  | (go_at_call 14; refine (num_any _ _).mono ?_; rintro e wq ⟨rfl, rfl⟩)
                  | (go_at_call 34
                     refine (HSK.out _ pk (some ⟨ga, oa, none⟩) ck ca (by first | exact HAK.out.drew | exact HAK.out) (by first | exact (HPA.aa.take k).drew | exact HPA.aa.take k)).mono ?_
                     rintro e w17 ⟨rfl, hb17⟩
                     try replace hb17 := below_undrew hb17
                     have HP17 := HPA.next hb17
                     have hx17 : Blk w17 w16.heap.size 63 [.int .i64 nodes, .int .i64 capacity, .int .i64 frames, .int .i64 quorum, .int .i64 delay, .slice pk k ck] := hxA.below hb17 hxA.lt
                     have r0 := hx17.cell 0; have r1 := hx17.cell 1; have r2 := hx17.cell 2; have r3 := hx17.cell 3; have r4 := hx17.cell 4; have r5 := hx17.cell 5
                     obtain ⟨rx0, rx1, rx2, rx3, rx4, rx5, rx6, rx7, rx8, rx9, rx10, rx11⟩ := HP17.cells
                     clear a0 a1 a2 a3 a4 a5 ax0 ax1 ax2 ax3 ax4 ax5 rx6 rx7 rx8 rx9 rx10 rx11)
                  | (go_at_call 11
                     refine (known_any _ HP17.env).mono ?_
                     rintro e w18 ⟨rfl, hb18⟩
                     have HP18 := HP17.next hb18
                     have hx18 : Blk w18 w16.heap.size 63 [.int .i64 nodes, .int .i64 capacity, .int .i64 frames, .int .i64 quorum, .int .i64 delay, .slice pk k ck] := hx17.below hb18 hx17.lt
                     have s0 := hx18.cell 0; have s1 := hx18.cell 1; have s2 := hx18.cell 2; have s3 := hx18.cell 3; have s4 := hx18.cell 4; have s5 := hx18.cell 5
                     obtain ⟨sx0, sx1, sx2, sx3, sx4, sx5, sx6, sx7, sx8, sx9, sx10, sx11⟩ := HP18.cells
                     clear r0 r1 r2 r3 r4 r5 rx0 rx1 rx2 rx3 rx4 rx5 sx6 sx7 sx8 sx9 sx10 sx11))
                go_wp2_with fail
                go_ret
                exact ⟨rfl, HP18.below⟩
        · rw [hb]
          clear hb mb
          go_wp2_with (first
            | (go_at_call 14; refine (num_any _ _).mono ?_; rintro e wq ⟨rfl, rfl⟩)
            | (go_at_call 11; refine (known_any _ HP.env).mono ?_; rintro e wk ⟨rfl, hbk⟩; clear x0 x1 x2 x3 x4 x5 y0 y1 y2 y3 y4 y5; replace HP := HP.next hbk))
          go_ret
          exact ⟨rfl, HP.below⟩
      · rw [ha]
        clear ha ma
        go_wp2_with fail
        refine (HT2.out HFB.out _ HP.bb HP.env).mono ?_
        rintro e w4 ⟨rfl, hb4⟩
        clear x0 x1 x2 x3 x4 x5 y0 y1 y2 y3 y4 y5
        replace HP := HP.next hb4
        obtain ⟨x0, x1, x2, x3, x4, x5, y0, y1, y2, y3, y4, y5⟩ := HP.cells
        clear hb4
        rcases textR_few HFB.out with ⟨mb, hb⟩ | ⟨mb, hb⟩
        all_goals
          rw [hb]
          clear hb mb
          go_wp2_with (first
            | (go_at_call 14; refine (num_any _ _).mono ?_; rintro e wq ⟨rfl, rfl⟩)
            | (go_at_call 11; refine (known_any _ HP.env).mono ?_; rintro e wk ⟨rfl, hbk⟩; clear x0 x1 x2 x3 x4 x5 y0 y1 y2 y3 y4 y5; replace HP := HP.next hbk))
          go_ret
          exact ⟨rfl, HP.below⟩
theorem lawWeavesC (w : World) (u v : Value) (n : Int) (z : ArgScrC w u) (y : ArgScrC w v) (_ : -9223372036854775808 ≤ n ∧ n ≤ 9223372036854775807) (henv : Env w) : Calls Tryz.prog 9 #[u, v, .int .i64 n] w fun e w' => e = .returned (.bool true) ∧ Below w.heap.size w w' := by
  obtain ⟨a, pa, ca, rfl, oa, hA, hc⟩ := z
  obtain ⟨b, pb, cb, rfl, ob, hB, _⟩ := y
  exact lawWeaves_any a b n oa ob pa pb ca cb w hA hB hc henv
end Go.Proofs.YtgplaeopcejmoaaGreatDoor
