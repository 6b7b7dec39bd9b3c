/- The walk of script's add: a script goes on by a line. The walk of script.Parse. -/
import Derived.Test.YtgplaeopcejmoaaGreatDoorTexta
import Derived.Test.YtgplaeopcejmoaaGreatDoorActof
namespace Go.Proofs.YtgplaeopcejmoaaGreatDoor
open Go.RowKit Go.Shelf

/-- a script under way -/
structure PSt (B base : Nat) (w : World) (b : Nat) (s : Sup) (v : Value) (l : List ArV) : Prop where
  box : Blk w b 63 (scrCells ⟨s, []⟩ v)
  row : AcRow w B base v l
  bB : B ≤ b
  bb : b < base
  sz : base ≤ w.heap.size
theorem PSt.below {B base b : Nat} {w w' : World} {s : Sup} {v : Value} {l : List ArV} (h : PSt B base w b s v l) (hb : Below w.heap.size w w') : PSt B base w' b s v l :=
  ⟨h.box.below hb h.box.lt, h.row.below hb, h.bB, h.bb, Nat.le_trans h.sz hb.size⟩
theorem scr_set (s : Sup) (v : Value) (n : Nat) (hn : n < 5) (x : Int) : (scrCells ⟨s, []⟩ v).set n (.int .i64 x) = scrCells ⟨setPut s n x, []⟩ v := by
  match n, hn with
  | 0, _ => rfl
  | 1, _ => rfl
  | 2, _ => rfl
  | 3, _ => rfl
  | 4, _ => rfl
theorem PSt.put {B base b : Nat} {w : World} {s : Sup} {v : Value} {l : List ArV} (h : PSt B base w b s v l) (n : Nat) (hn : n < 5) (x : Int) : PSt B base (w.setCell ⟨b, n, none⟩ (.int .i64 x)) b (setPut s n x) v l :=
  ⟨by rw [← scr_set s v n hn x]; exact h.box.setCell n _ (by simp [scrCells]; omega), h.row.turn (grown_setCell _ _ _ _) (fun i e => by injection e with e; have h1 := h.bB; have h2 := h.bb; omega), h.bB, h.bb, Nat.le_trans h.sz (grown_setCell w b n _).size⟩
def addR (B base b : Nat) (r : Option Scr) (e : Ending) (w' : World) : Prop := match r with
  | none => e = .returned (.bool false)
  | some s => e = .returned (.bool true) ∧ ∃ v l, s.acts = l.map (·.1) ∧ PSt B base w' b s.set v l
theorem addR_no {B base b : Nat} {r : Option Scr} {w : World} (h : r = none) : addR B base b r (.returned (.bool false)) w := by rw [h]; rfl
theorem addR_yes {B base b : Nat} {r : Option Scr} {s : Scr} {w : World} {v : Value} {l : List ArV} (h : r = some s) (hl : s.acts = l.map (·.1)) (hp : PSt B base w b s.set v l) : addR B base b r (.returned (.bool true)) w := by rw [h]; exact ⟨rfl, v, l, hl, hp⟩
/-- a setup's line, as the code reads it -/
theorem setNum_code (n : Nat) (x : ByteArray) : setNum n x = if (((splitT 32 x).headD ⟨#[]⟩).toList == (setNm n).toList) && (!(((splitT 32 x).isEmpty || (splitT 32 x).tail.isEmpty) || (intV ((splitT 32 x).tail.headD ⟨#[]⟩)).2) && (splitT 32 x).tail.tail.isEmpty) then some (intV ((splitT 32 x).tail.headD ⟨#[]⟩)).1 else none := by
  unfold setNum
  match splitT 32 x with
  | [] => simp
  | [a] => simp
  | [a, b] =>
    simp only [List.headD_cons, List.tail_cons, List.isEmpty_cons, List.isEmpty_nil, Bool.false_or, Bool.and_true, toList_bs]
  | a :: b :: c :: l => simp

set_option maxRecDepth 100000 in
set_option maxHeartbeats 8000000 in
theorem add_set (n : Nat) (hn : n < 5) (x : ByteArray) (hx : x.size ≤ 1000000) (C B base b : Nat) (hCb : C ≤ b) (s : Sup) (v : Value) (l : List ArV) (w : World) (h : PSt B base w b s v l) (henv : Env w) :
    Calls Tryz.prog 82 #[.pointer (some ⟨b, 0, none⟩), .int .i64 n, .string x] w fun e w' => addR B base b (stepP n ⟨s, l.map (·.1)⟩ x) e w' ∧ Below C w w' := by
  have g1 : (n : Int) < 5 := by omega
  have H := Lib.hid h
  have HE := Lib.hid henv
  have hBw : C ≤ w.heap.size := by have h2 := h.bb; have h3 := h.sz; omega
  have hbw : b < w.heap.size := h.box.lt
  clear h henv
  have hst : stepP n ⟨s, l.map (·.1)⟩ x = match setNum n x with
    | none => none
    | some v => if n < 4 || maySet (setPut s n v) then some ⟨setPut s n v, l.map (·.1)⟩ else none := by unfold stepP; rw [if_pos hn]; cases setNum n x <;> rfl
  rw [setNum_code] at hst
  have HST := Lib.hid hst
  clear hst
  have hws : (Lib.splitB ⟨#[32]⟩ 0 (Lib.countB x ⟨#[32]⟩) x) = splitT 32 x := congrArg Prod.fst (lineS_cuts x)
  have hlo := fun W he => lineOf_any x hx W he
  rw [hws] at hlo
  have HLO := Lib.hid hlo
  clear hlo hws
  generalize splitT 32 x = ws at *
  have hlt4 : ((n : Int) < 4) = (n < 4) := by simp only [eq_iff_iff]; omega
  obtain ⟨y, hy⟩ : ∃ y, ws.headD ⟨#[]⟩ = y := ⟨_, rfl⟩
  have HY := Lib.hid hy
  rw [hy] at HST
  clear hy
  obtain ⟨i, hi⟩ : ∃ i : Bool, (y.toList == (setNm n).toList) = i := ⟨_, rfl⟩
  obtain ⟨D, hD⟩ : ∃ D : Bool, (!((false || ws.isEmpty || ws.tail.isEmpty) || (intV (ws.tail.headD ⟨#[]⟩)).2) && ws.tail.tail.isEmpty) = D := ⟨_, rfl⟩
  obtain ⟨x1, hx1⟩ : ∃ x1, (intV (ws.tail.headD ⟨#[]⟩)).1 = x1 := ⟨_, rfl⟩
  have HX1 := Lib.hid hx1
  have HDD := Lib.hid hD
  have hst := HST.out
  rw [Bool.false_or] at hD
  rw [hi, hD, hx1] at hst
  have HST := Lib.hid hst
  have HM := fun W => cmay_any (setPut s n x1) W
  have HMAY := Lib.hid HM
  have hset : ∀ W : World, PSt B base W b (setPut s n x1) v l → W.cell? ⟨b, 0, none⟩ = some (.int .i64 (setPut s n x1).nodes) ∧ W.cell? ⟨b, 1, none⟩ = some (.int .i64 (setPut s n x1).capacity) ∧ W.cell? ⟨b, 2, none⟩ = some (.int .i64 (setPut s n x1).frames) ∧ W.cell? ⟨b, 3, none⟩ = some (.int .i64 (setPut s n x1).quorum) ∧ W.cell? ⟨b, 4, none⟩ = some (.int .i64 (setPut s n x1).delay) := fun W h => ⟨h.box.cell 0, h.box.cell 1, h.box.cell 2, h.box.cell 3, h.box.cell 4⟩
  have HSET := Lib.hid hset
  have hold : ∀ W : World, PSt B base W b s v l → ∃ u, W.cell? ⟨b, n, none⟩ = some u ∧ W.frozen? ⟨b, n, none⟩ = false := fun W h => by
    have h1 := h.box.cell n
    rw [h1]
    refine ⟨(scrCells ⟨s, []⟩ v)[n]'(by simp [scrCells]; omega), List.getElem?_eq_getElem _, h.box.frozen n⟩
  have HOLD := Lib.hid hold
  have hpt : ∀ W, PSt B base W b s v l → PSt B base (W.setCell ⟨b, n, none⟩ (.int .i64 x1)) b (setPut s n x1) v l := fun W h => h.put n hn x1
  have HPT := Lib.hid hpt
  clear hD hst hx1 HM hset hold hpt
  generalize hs1 : setPut s n x1 = s1 at *
  have HS1 := Lib.hid hs1
  clear hs1
  cases i with
  | false =>
    have hno : stepP n ⟨s, l.map (·.1)⟩ x = none := by rw [HST.out]; rfl
    have HNO := Lib.hid hno
    clear hno
    go_enter Tryz.func82, Tryz.ntmps82
    go_wp2_with (first
      | (go_at_call 76; refine (setup_any b n hn _).mono ?_; rintro e w1 ⟨rfl, hb1⟩; rw [show setupV b n = .tuple #[.string (setNm n), .pointer (some ⟨b, n, none⟩)] from rfl])
      | (go_at_call 62; refine (HLO.out _ (HE.out.below hb1)).mono ?_; rintro e w2 ⟨lb, lg, rfl, hlb, hlg, hl2, hb2⟩; have hB2 := hb1.trans (hb2.mono hb1.size); have hlb' : w.heap.size ≤ lb := Nat.le_trans hb1.size hlb; have hlg' : w.heap.size ≤ lg := Nat.le_trans hb1.size hlg)
      | (go_at_call 67; refine (lword_any lb lg _ _ _ hl2).mono ?_; rintro e w3 ⟨rfl, hl3, hg3⟩; rw [HY.out]; have hB3 : Below w.heap.size w w3 := hB2.grown hg3 hB2.size (fun j e => by injection e with e; omega))
      | (go_at_call 69; refine (lint_any lb lg _ _ _ hl3 (fun w' k => HE.out.below (hB3.grown k hB3.size (fun j e => by injection e with e; omega)))).mono ?_; rintro e w4 ⟨rfl, hl4, hg4⟩; rw [HX1.out]; have hB4 : Below w.heap.size w w4 := hB3.grown hg4 hB3.size (fun j e => by injection e with e; omega); have HP4 := Lib.hid (H.out.below hB4); obtain ⟨u4, q4, f4⟩ := HOLD.out _ HP4.out; have hB5 : Below C w (w4.setCell ⟨b, n, none⟩ (.int .i64 x1)) := (hB4.mono hBw).setCell (p := ⟨b, n, none⟩) hCb _))
    go_ret
    exact ⟨addR_no HNO.out, hB5⟩
  | true =>
    cases D with
    | false =>
      have hno : stepP n ⟨s, l.map (·.1)⟩ x = none := by rw [HST.out]; rfl
      have HNO := Lib.hid hno
      clear hno
      go_enter Tryz.func82, Tryz.ntmps82
      go_wp2_with (first
        | (go_at_call 76; refine (setup_any b n hn _).mono ?_; rintro e w1 ⟨rfl, hb1⟩; rw [show setupV b n = .tuple #[.string (setNm n), .pointer (some ⟨b, n, none⟩)] from rfl])
        | (go_at_call 62; refine (HLO.out _ (HE.out.below hb1)).mono ?_; rintro e w2 ⟨lb, lg, rfl, hlb, hlg, hl2, hb2⟩; have hB2 := hb1.trans (hb2.mono hb1.size); have hlb' : w.heap.size ≤ lb := Nat.le_trans hb1.size hlb; have hlg' : w.heap.size ≤ lg := Nat.le_trans hb1.size hlg)
        | (go_at_call 67; refine (lword_any lb lg _ _ _ hl2).mono ?_; rintro e w3 ⟨rfl, hl3, hg3⟩; rw [HY.out]; have hB3 : Below w.heap.size w w3 := hB2.grown hg3 hB2.size (fun j e => by injection e with e; omega))
        | (go_at_call 69; refine (lint_any lb lg _ _ _ hl3 (fun w' k => HE.out.below (hB3.grown k hB3.size (fun j e => by injection e with e; omega)))).mono ?_; rintro e w4 ⟨rfl, hl4, hg4⟩; rw [HX1.out]; have hB4 : Below w.heap.size w w4 := hB3.grown hg4 hB3.size (fun j e => by injection e with e; omega); have HP4 := Lib.hid (H.out.below hB4); obtain ⟨u4, q4, f4⟩ := HOLD.out _ HP4.out; have hB5 : Below C w (w4.setCell ⟨b, n, none⟩ (.int .i64 x1)) := (hB4.mono hBw).setCell (p := ⟨b, n, none⟩) hCb _)
        | (go_at_call 64; refine (ldone_any lb lg _ _ _ (hl4.grown (grown_setCell _ b n (.int .i64 x1)) (fun e => by injection e with e; omega) (fun e => by injection e with e; omega))).mono ?_; rintro e w5 ⟨rfl, rfl⟩; rw [HDD.out]))
      go_ret
      exact ⟨addR_no HNO.out, hB5⟩
    | true =>
      by_cases h4 : n < 4
      · have hyes : stepP n ⟨s, l.map (·.1)⟩ x = some ⟨s1, l.map (·.1)⟩ := by rw [HST.out]; simp [h4, HS1.out]
        have HYES := Lib.hid hyes
        clear hyes
        have g4 : (n : Int) < 4 := by omega
        go_enter Tryz.func82, Tryz.ntmps82
        go_wp2_with (first
          | (go_at_call 76; refine (setup_any b n hn _).mono ?_; rintro e w1 ⟨rfl, hb1⟩; rw [show setupV b n = .tuple #[.string (setNm n), .pointer (some ⟨b, n, none⟩)] from rfl])
          | (go_at_call 62; refine (HLO.out _ (HE.out.below hb1)).mono ?_; rintro e w2 ⟨lb, lg, rfl, hlb, hlg, hl2, hb2⟩; have hB2 := hb1.trans (hb2.mono hb1.size); have hlb' : w.heap.size ≤ lb := Nat.le_trans hb1.size hlb; have hlg' : w.heap.size ≤ lg := Nat.le_trans hb1.size hlg)
          | (go_at_call 67; refine (lword_any lb lg _ _ _ hl2).mono ?_; rintro e w3 ⟨rfl, hl3, hg3⟩; rw [HY.out]; have hB3 : Below w.heap.size w w3 := hB2.grown hg3 hB2.size (fun j e => by injection e with e; omega))
          | (go_at_call 69; refine (lint_any lb lg _ _ _ hl3 (fun w' k => HE.out.below (hB3.grown k hB3.size (fun j e => by injection e with e; omega)))).mono ?_; rintro e w4 ⟨rfl, hl4, hg4⟩; rw [HX1.out]; have hB4 : Below w.heap.size w w4 := hB3.grown hg4 hB3.size (fun j e => by injection e with e; omega); have HP4 := Lib.hid (H.out.below hB4); obtain ⟨u4, q4, f4⟩ := HOLD.out _ HP4.out; have hB5 : Below C w (w4.setCell ⟨b, n, none⟩ (.int .i64 x1)) := (hB4.mono hBw).setCell (p := ⟨b, n, none⟩) hCb _)
          | (go_at_call 64; refine (ldone_any lb lg _ _ _ (hl4.grown (grown_setCell _ b n (.int .i64 x1)) (fun e => by injection e with e; omega) (fun e => by injection e with e; omega))).mono ?_; rintro e w5 ⟨rfl, rfl⟩; rw [HDD.out]))
        go_ret
        exact ⟨addR_yes HYES.out rfl (HPT.out _ HP4.out), hB5⟩
      · have g4 : ¬ (n : Int) < 4 := by omega
        have hst2 : stepP n ⟨s, l.map (·.1)⟩ x = if maySet s1 then some ⟨s1, l.map (·.1)⟩ else none := by rw [HST.out]; simp [h4, HS1.out]
        have HST2 := Lib.hid hst2
        clear hst2
        obtain ⟨my, hmy⟩ : ∃ my, maySet s1 = my := ⟨_, rfl⟩
        have HMY := Lib.hid hmy
        rw [hmy] at HST2
        rw [hmy] at HMAY
        clear hmy
        obtain ⟨nodes, capacity, frames, quorum, delay⟩ := s1
        simp only [supV, supCells] at *
        go_enter Tryz.func82, Tryz.ntmps82
        go_wp2_with (first
          | (go_at_call 76; refine (setup_any b n hn _).mono ?_; rintro e w1 ⟨rfl, hb1⟩; rw [show setupV b n = .tuple #[.string (setNm n), .pointer (some ⟨b, n, none⟩)] from rfl])
          | (go_at_call 62; refine (HLO.out _ (HE.out.below hb1)).mono ?_; rintro e w2 ⟨lb, lg, rfl, hlb, hlg, hl2, hb2⟩; have hB2 := hb1.trans (hb2.mono hb1.size); have hlb' : w.heap.size ≤ lb := Nat.le_trans hb1.size hlb; have hlg' : w.heap.size ≤ lg := Nat.le_trans hb1.size hlg)
          | (go_at_call 67; refine (lword_any lb lg _ _ _ hl2).mono ?_; rintro e w3 ⟨rfl, hl3, hg3⟩; rw [HY.out]; have hB3 : Below w.heap.size w w3 := hB2.grown hg3 hB2.size (fun j e => by injection e with e; omega))
          | (go_at_call 69; refine (lint_any lb lg _ _ _ hl3 (fun w' k => HE.out.below (hB3.grown k hB3.size (fun j e => by injection e with e; omega)))).mono ?_; rintro e w4 ⟨rfl, hl4, hg4⟩; rw [HX1.out]; have hB4 : Below w.heap.size w w4 := hB3.grown hg4 hB3.size (fun j e => by injection e with e; omega); have HP4 := Lib.hid (H.out.below hB4); obtain ⟨u4, q4, f4⟩ := HOLD.out _ HP4.out; have hB5 : Below C w (w4.setCell ⟨b, n, none⟩ (.int .i64 x1)) := (hB4.mono hBw).setCell (p := ⟨b, n, none⟩) hCb _)
          | (go_at_call 64; refine (ldone_any lb lg _ _ _ (hl4.grown (grown_setCell _ b n (.int .i64 x1)) (fun e => by injection e with e; omega) (fun e => by injection e with e; omega))).mono ?_; rintro e w5 ⟨rfl, rfl⟩; rw [HDD.out]; have HP5 := Lib.hid (HPT.out _ HP4.out); obtain ⟨c0, c1, c2, c3, c4⟩ := HSET.out _ HP5.out)
          | (go_at_call 73; refine (HMAY.out _).mono ?_; rintro e w6 ⟨rfl, hb6⟩))
        go_ret
        have hB6 : Below C w w6 := hB5.trans (hb6.mono (Nat.le_trans hBw hB5.size))
        cases my with
        | true => exact ⟨addR_yes (by rw [HST2.out]; rfl) rfl (HP5.out.below hb6), hB6⟩
        | false => exact ⟨addR_no (by rw [HST2.out]; rfl), hB6⟩

theorem step_append_a {w : World} {ops : Array Oper} {o : Oper} {a : Act} {K : Act → World → Prop} {Q : Exit → Act → World → Prop} {E : Prop} (hgd : o.guard = none) (s x : Operand)
    (ho : o.op = .call { callee := .builtin .append, args := #[s, x], argTypes := #[61, 61] }) (B base : Nat) (v : Value) (l : List ArV) (ad : Addr) (m c : Nat) (news : List ArV) (hs : a.eval s = v) (hx : a.eval x = .slice (some ad) m c)
    (h : AcRow w B base v l) (hn : l.length ≤ 1000000) (hbase : base ≤ w.heap.size) (hm : m = news.length) (hn2 : m ≤ 1000000) (hnews : ∀ j u, (cellsA news)[j]? = some u → w.cell? (ad.add j) = some u) (hpk : ∀ x ∈ news, PkApart w B base v.ownBlock x)
    (hk : ∀ v' w', AcRow w' B base v' (l ++ news) → w.grownBy w' v.ownBlock → K (a.put o.dst v') w') : if Region.wanted o (yielded ops a.tmps) = true then Oper.wp Tryz.prog o a w K Q else E := by
  obtain ⟨v', w', hr, h1, h2⟩ := append_a w B base v l h hn hbase ad m c news hm hn2 hnews hpk o.type
  exact step_two hgd .append s x #[61, 61] ho v _ hs hx hr (hk v' w' h1 h2)
theorem news_a (w : World) (x : ArV) (k : Nat) (hk : k = w.heap.size) (j : Nat) (u : Value) (h : (cellsA [x])[j]? = some u) : (w.alloc (.cells (actCells x.1 (arvV x)).toArray 39)).drew.cell? ((⟨k, 0, none⟩ : Addr).add j) = some u := by
  subst hk
  show (w.alloc (.cells (actCells x.1 (arvV x)).toArray 39)).cell? _ = some u
  rw [Addr.add_lit]
  rw [cellsA_one] at h
  have := (Blk.new w 39 (actCells x.1 (arvV x))).cell (0 + j)
  rw [this, Nat.zero_add]; exact h
theorem PkApart.alloc {w : World} {B base : Nat} {row : Option Nat} {x : ArV} (h : PkApart w B base row x) (o : Obj) : PkApart (w.alloc o) B base row x := h.turn (World.grownBy_alloc w o none) (.inr (by simp))
theorem PkApart.drew {w : World} {B base : Nat} {row : Option Nat} {x : ArV} (h : PkApart w B base row x) : PkApart w.drew B base row x := h.turn (grownBy_drew w none) (.inr (by simp))

set_option maxRecDepth 100000 in
set_option maxHeartbeats 8000000 in
theorem add_act (n : Nat) (hn : 5 ≤ n) (x : ByteArray) (hx : x.size ≤ 1000000) (C B base b : Nat) (hCb : C ≤ b) (s : Sup) (v : Value) (l : List ArV) (hl : l.length ≤ 65536) (w : World) (h : PSt B base w b s v l) (henv : Env w) :
    Calls Tryz.prog 82 #[.pointer (some ⟨b, 0, none⟩), .int .i64 n, .string x] w fun e w' => addR B base b (stepP n ⟨s, l.map (·.1)⟩ x) e w' ∧ Below C w w' := by
  have g1 : ¬ (n : Int) < 5 := by omega
  have hBw : C ≤ w.heap.size := by have h2 := h.bb; have h3 := h.sz; omega
  have hbw : b < w.heap.size := h.box.lt
  have hbB := h.bB
  have hbb := h.bb
  have hsz := h.sz
  obtain ⟨pv, cv, rfl⟩ := h.row.form
  have c5 : w.cell? ⟨b, 5, none⟩ = some (.slice pv l.length cv) := h.box.cell 5
  have H := Lib.hid h
  clear h
  by_cases hfull : l.length = 65536
  · have hno : stepP n ⟨s, l.map (·.1)⟩ x = none := by unfold stepP; rw [if_neg (by omega), if_pos (by simp [hfull])]
    have HNO := Lib.hid hno
    have gf : ((l.length : Int) == 65536) = true := by rw [beq_iff_eq]; omega
    clear hno
    go_enter Tryz.func82, Tryz.ntmps82
    go_wp2
    go_ret
    exact ⟨addR_no HNO.out, Below.refl _ _⟩
  have gf : ((l.length : Int) == 65536) = false := by rw [beq_eq_false_iff_ne]; omega
  have hst : stepP n ⟨s, l.map (·.1)⟩ x = match actOfT x with
    | none => none
    | some a => some ⟨s, l.map (·.1) ++ [a]⟩ := by unfold stepP; rw [if_neg (by omega), if_neg (by simpa using hfull)]; cases actOfT x <;> rfl
  have HST := Lib.hid hst
  have hof := actofT_any x hx w henv
  obtain ⟨o, ho⟩ : ∃ o, actOfT x = o := ⟨_, rfl⟩
  rw [ho] at hof HST
  obtain ⟨q, hq⟩ : ∃ q, o.getD arZero = q := ⟨_, rfl⟩
  obtain ⟨ec, hec⟩ : ∃ ec : Int, (if o.isSome then 0 else 4) = ec := ⟨_, rfl⟩
  unfold ActRes at hof
  rw [hq, hec] at hof
  have HO := Lib.hid hof
  have HQ := Lib.hid hq
  have HEC := Lib.hid hec
  clear hst hof ho hq hec henv
  obtain ⟨kd, node, source, nn, ⟨ak, am, akey, atil, avalue, alevel, alsn⟩, picks⟩ := q
  simp only [actCells] at HO
  go_enter Tryz.func82, Tryz.ntmps82
  go_wp2_with (go_at_call 25; refine HO.out.mono ?_; rintro e w1 ⟨⟨pa, pc, rfl, hpk⟩, hb1⟩)
  have hw1 := hb1.size
  have hap : PkApart w1 B base (Value.slice pv l.length cv).ownBlock (⟨kd, node, source, nn, ⟨ak, am, akey, atil, avalue, alevel, alsn⟩, picks⟩, (pa, pc)) := fun hl => by
    obtain ⟨g, e, hg, hc⟩ := hpk hl
    refine ⟨g, 0, e, .inr (by omega), ?_, ?_, fun j z hz => by rw [Nat.zero_add]; exact hc j z hz⟩
    · cases hp : picks with
      | nil => exact absurd hp hl
      | cons y r => exact cell_lt (hc 0 y (by simp [hp]))
    · intro e2
      have := (H.out.row.lt g e2.symm).2
      omega
  have HAP := Lib.hid hap
  have H1 := Lib.hid (H.out.below hb1)
  have c5' : w1.cell? ⟨b, 5, none⟩ = some (.slice pv l.length cv) := H1.out.box.cell 5
  clear hap hpk
  have hB0 := Blk.new w1 39 [.int .i64 kd, .int .i64 node, .int .i64 source, .int .i64 nn, .int .i64 ak, .int .u64 (am : Int), .string akey, .string atil, .string avalue, .int .i64 alevel, .int .u64 (alsn : Int), .slice pa picks.length pc]
  have r0 := hB0.cell 0; have r1 := hB0.cell 1; have r2 := hB0.cell 2; have r3 := hB0.cell 3; have r4 := hB0.cell 4; have r5 := hB0.cell 5; have r6 := hB0.cell 6; have r7 := hB0.cell 7; have r8 := hB0.cell 8; have r9 := hB0.cell 9; have r10 := hB0.cell 10; have r11 := hB0.cell 11
  have H2 := Lib.hid (H1.out.below ((Below.refl _ w1).alloc (Nat.le_refl _) (.cells #[.int .i64 kd, .int .i64 node, .int .i64 source, .int .i64 nn, .int .i64 ak, .int .u64 (am : Int), .string akey, .string atil, .string avalue, .int .i64 alevel, .int .u64 (alsn : Int), .slice pa picks.length pc] 39)))
  have d5 := H2.out.box.cell 5
  rw [show (scrCells ⟨s, []⟩ (.slice pv l.length cv))[5]? = some (.slice pv l.length cv) from rfl] at d5
  have hbs : b < w1.heap.size := Nat.lt_of_lt_of_le hbw hw1
  clear hB0 c5
  have hne : some b ≠ (Value.slice pv l.length cv).ownBlock := fun e => by
    have := (H.out.row.lt b e.symm).1
    omega
  have HNE := Lib.hid hne
  clear hne
  go_region_law (refine step_append_a rfl (.tmp 64) (.tmp 66) rfl B base (.slice pv l.length cv) l _ 1 1 [(⟨kd, node, source, nn, ⟨ak, am, akey, atil, avalue, alevel, alsn⟩, picks⟩, (pa, pc))] (by simp [Act.eval]) (by simp [Act.eval]; rfl) (H2.out.row.alloc _).drew (by omega) (by simp; omega) rfl (by omega) ?news ?pk ?_
                 case news => exact fun j u hu => news_a (w1.alloc (.cells #[.int .i64 kd, .int .i64 node, .int .i64 source, .int .i64 nn, .int .i64 ak, .int .u64 (am : Int), .string akey, .string atil, .string avalue, .int .i64 alevel, .int .u64 (alsn : Int), .slice pa picks.length pc] 39)) (⟨kd, node, source, nn, ⟨ak, am, akey, atil, avalue, alevel, alsn⟩, picks⟩, (pa, pc)) (w1.heap.size + 1) (by simp) j u hu
                 case pk => exact fun z hz => by rw [List.mem_singleton.1 hz]; exact ((HAP.out.alloc _).alloc _).drew
                 intro v3 w3 ho3 hg3
                 have hb3 : Blk w3 b 63 (scrCells ⟨s, []⟩ (.slice pv l.length cv)) := (((H2.out.box.alloc _).drew)).grown hg3 HNE.out
                 have q5 : w3.cell? ⟨b, 5, none⟩ = some (.slice pv l.length cv) := hb3.cell 5
                 have f5 := hb3.frozen 5
                 obtain ⟨p3, c3, hv3⟩ := ho3.form
                 rw [List.length_append, List.length_singleton] at hv3
                 subst hv3)
  all_goals
    have hB3 : Below C w (w3.setCell ⟨b, 5, none⟩ (.slice p3 (l.length + 1) c3)) := by
      refine Below.setCell (p := ⟨b, 5, none⟩) ?_ hCb _
      have k1 : Below C w w1 := hb1.mono hBw
      have k2 : ∀ X Y : Obj, Below C w ((w1.alloc X).alloc Y).drew := fun X Y => ((k1.alloc (Nat.le_trans hBw hw1) X).alloc (by simp; omega) Y).drew
      exact (k2 _ _).grown hg3 (by simp; omega) (fun k e => by have := (H.out.row.lt k e).1; omega)
    have hR3 : PSt B base (w3.setCell ⟨b, 5, none⟩ (.slice p3 (l.length + 1) c3)) b s (.slice p3 (l.length + 1) c3) (l ++ [(⟨kd, node, source, nn, ⟨ak, am, akey, atil, avalue, alevel, alsn⟩, picks⟩, (pa, pc))]) :=
      ⟨hb3.setCell 5 _ (by simp [scrCells]), ho3.turn (grown_setCell _ _ _ _) (fun i e => by injection e with e; omega), hbB, hbb, by
        have h1 := hg3.size
        have h2 := (grown_setCell w3 b 5 (.slice p3 (l.length + 1) c3)).size
        have h3 : w1.heap.size ≤ w3.heap.size := Nat.le_trans (by simp; omega) h1
        omega⟩
    have HB3 := Lib.hid hB3
    have HR3 := Lib.hid hR3
    clear hB3 hR3 q5 f5 d5 c5' r0 r1 r2 r3 r4 r5 r6 r7 r8 r9 r10 r11
    cases o with
    | none =>
      obtain rfl : 4 = ec := HEC.out
      have HNO := Lib.hid HST.out
      go_wp2
      go_ret
      exact ⟨addR_no HNO.out, HB3.out⟩
    | some a =>
      obtain rfl : 0 = ec := HEC.out
      have hq : a = ⟨kd, node, source, nn, ⟨ak, am, akey, atil, avalue, alevel, alsn⟩, picks⟩ := HQ.out
      have hyes := HST.out
      rw [hq] at hyes
      have HYES := Lib.hid hyes
      clear hq hyes
      go_wp2
      go_ret
      exact ⟨addR_yes HYES.out (by simp) HR3.out, HB3.out⟩
end Go.Proofs.YtgplaeopcejmoaaGreatDoor
namespace Go.Proofs.YtgplaeopcejmoaaGreatDoor
open Go.RowKit Go.Shelf

theorem cut_hit (p r : Bs) (h : ∀ x ∈ p, x ≠ 10) : Lib.cut (p ++ 10 :: r) [10] = (p, r, true) := by
  unfold Lib.cut
  rw [index_pre 10 p r h]
  simp
theorem cut_miss (p : Bs) (h : ∀ x ∈ p, x ≠ 10) : Lib.cut p [10] = (p, [], false) := by
  unfold Lib.cut
  rw [index_lack 10 p h]
  simp
theorem cut_any (rest : Bs) (h : rest.length ≤ 4194304) (w : World) (henv : Env w) : Calls Tryz.prog 81 #[.string (txt rest), .string ⟨#[10]⟩] w fun e w' => e = .returned (.tuple #[.string (txt (Lib.cut rest [10]).1), .string (txt (Lib.cut rest [10]).2.1), .bool (Lib.cut rest [10]).2.2]) ∧ Below w.heap.size w w' := by
  obtain ⟨m, hm⟩ := henv.mxl
  have hz : (txt rest).size = rest.length := by rw [← bs_length, bs_txt]
  exact (Tryz.strings_Cut (txt rest) ⟨#[10]⟩ m w (by omega) hm).mono fun e w' ⟨he, n, hw⟩ => ⟨he, by rw [hw]; exact below_drewN (Below.refl _ _) n⟩
def strLen (v : Value) : Nat := match v with
  | .string s => s.size
  | _ => 0
def scrZV : Value := .agg (scrCells scrZ (.slice none 0 0)).toArray
def parseR (r : Except Nat Scr) (e : Ending) (w : World) : Prop := match r with
  | .error n => e = .returned (.tuple #[scrZV, .int .i64 n, .int .i64 4])
  | .ok s => ∃ pa pc, e = .returned (.tuple #[.agg (scrCells s (.slice pa s.acts.length pc)).toArray, .int .i64 0, .int .i64 0]) ∧ ActsAt w pa s.acts
/-- what Parse hands back: acts behind a block -/
def parseF (B : Nat) (r : Except Nat Scr) (e : Ending) (w : World) : Prop := match r with
  | .error n => e = .returned (.tuple #[scrZV, .int .i64 n, .int .i64 4])
  | .ok s => ∃ pa pc l, e = .returned (.tuple #[.agg (scrCells s (.slice pa s.acts.length pc)).toArray, .int .i64 0, .int .i64 0]) ∧ s.acts = l.map (·.1) ∧ AcRow w 0 B (.slice pa s.acts.length pc) l
theorem parseF_R {B : Nat} {r : Except Nat Scr} {e : Ending} {w : World} (h : parseF B r e w) : parseR r e w := by
  unfold parseF at h
  unfold parseR
  cases r with
  | error n => exact h
  | ok s =>
    obtain ⟨pa, pc, l, he, hl, hr⟩ := h
    obtain ⟨pa', pc', e', hat⟩ := hr.at
    injection e' with e1 e2 e3
    subst e1 e3
    exact ⟨pa, pc, he, by rw [hl]; exact hat⟩
theorem AcRow.mono {w : World} {B base base2 : Nat} {v : Value} {l : List ArV} (h : AcRow w B base v l) (hb : base2 ≤ base) : AcRow w B base2 v l := ⟨⟨h.own.1, by
  rcases h.own.2 with h1 | ⟨g, cap, cur, e, hg, hr⟩
  · exact .inl h1
  · exact .inr ⟨g, cap, cur, e, Nat.le_trans hb hg, hr⟩⟩, fun x hx hl => by
  obtain ⟨g, o, e, hg, h1, h2, h3⟩ := h.pk x hx hl
  exact ⟨g, o, e, by omega, h1, h2, h3⟩⟩
theorem infoScr : (Tryz.prog.info? 63).map (·.size) = some 6 := by kernel_rfl
theorem results_row_tmp2 {P : Program} {fn : Func} {p u u2 : Tmp} {ty : TypeId} (h : fn.results = #[.cell p ty, .tmp u, .tmp u2]) (tmps : Array Value) (w : World) (g : Nat) (t : TypeId) (cs : Array Value) (fr : Nat × Nat) (d : TypeDesc)
    (hp : tmps.getD p undef = .pointer (some ⟨g, 0, none⟩)) (hg : w.heap[g]? = some (.cells cs t fr))
    (hu : P.underlying ty = some d) (hd : (match d with | .struct _ | .array _ _ => true | _ => false) = true) (hi : (P.info? ty).map (·.size) = some cs.size) :
    (results fn tmps).run P w = .ok (.tuple #[.agg cs, tmps.getD u undef, tmps.getD u2 undef]) w := by
  have e : (results fn tmps).run P w = ((asAddr (tmps.getD p undef)).run P w).andThen fun a w₁ => ((loadVar ty a).run P w₁).andThen fun v w₂ => .ok (.tuple #[v, tmps.getD u undef, tmps.getD u2 undef]) w₂ := by
    simp only [results, h]
    simp [Sem.run_bind, Result.andThen]
  rw [e, hp]
  simp [asAddr, run_loadVar_row w g t ty cs fr d hg hu hd hi, Result.andThen]
structure PRel (t : ByteArray) (w W : World) (k : Nat) (rest : Bs) (s : Scr) (v : Value) (l : List ArV) : Prop where
  below : Below w.heap.size w W
  res : Blk W w.heap.size 63 (scrCells scrZ (.slice none 0 0))
  st : PSt 0 (w.heap.size + 2) W (w.heap.size + 1) s.set v l
  acts : s.acts = l.map (·.1)
  len : l.length ≤ 65536
  left : parseT t = parseB k s (cutsL 10 rest)
  small : ∀ c ∈ cutsL 10 rest, c.length ≤ 1000000
  size : rest.length + k ≤ t.size
set_option maxRecDepth 100000 in
set_option maxHeartbeats 8000000 in
theorem parse_own (t : ByteArray) (ht : t.size ≤ 4194304) (hsm : ∀ c ∈ cutsL 10 (bs t), c.length ≤ 1000000) (w : World) (henv : Env w) :
    Calls Tryz.prog 36 #[.string t] w fun e w' => parseF w.heap.size (parseT t) e w' ∧ Below w.heap.size w w' := by
  have g0 : ¬ (4194304 : Int) < (t.size : Int) := by omega
  have HE := Lib.hid henv
  clear henv
  have h0 : PRel t w ((w.alloc (.cells (scrCells scrZ (.slice none 0 0)).toArray 63)).alloc (.cells (scrCells scrZ (.slice none 0 0)).toArray 63)) 0 (bs t) scrZ (.slice none 0 0) [] := by
    have hb := ((Below.refl w.heap.size w).alloc (Nat.le_refl _) (.cells (scrCells scrZ (.slice none 0 0)).toArray 63)).alloc (by simp) (.cells (scrCells scrZ (.slice none 0 0)).toArray 63)
    have h2 := Blk.new (w.alloc (.cells (scrCells scrZ (.slice none 0 0)).toArray 63)) 63 (scrCells scrZ (.slice none 0 0))
    rw [World.size_alloc] at h2
    exact ⟨hb, (Blk.new w 63 _).alloc _, ⟨h2, AcRow.nil _ _ _, Nat.zero_le _, by omega, by simp⟩, rfl, by simp, rfl, hsm, by rw [bs_length]; omega⟩
  have H0 := Lib.hid h0
  have hT := bs_length t
  clear h0 hsm
  go_enter Tryz.func36, Tryz.ntmps36
  go_wp2_with fail
  go_loopw [0, 6] (fun tx i wr => ∃ (k : Nat) (rest : Bs) (s : Scr) (v : Value) (l : List ArV), tx = .string (txt rest) ∧ i = .int .i64 k ∧ rest.length ≤ 4194304 ∧ k ≤ 4194304 ∧ Hid (PRel t w wr k rest s v l)) (fun tx _ _ => strLen tx)
  case atStart => exact ⟨0, bs t, scrZ, .slice none 0 0, [], by rw [txt_bs], rfl, by omega, by omega, H0⟩
  case round =>
    clear H0
    obtain ⟨k, rest, s, v, l, rfl, rfl, hrl, hkl, HR⟩ := hrel
    have hpk := HR.out
    obtain ⟨hbel, hres, hst, hac, hll, hleft, hsmall, hsize⟩ := hpk
    have hsz := hst.sz
    have HBEL := Lib.hid hbel; have HRES := Lib.hid hres; have HST := Lib.hid hst; have HAC := Lib.hid hac; have HLEFT := Lib.hid hleft; have HSM := Lib.hid hsmall
    clear hbel hres hst hac hleft hsmall HR
    cases rest with
    | nil =>
      have he : (txt []).toList.isEmpty = true := by rw [toList_bs]; rfl
      by_cases hk5 : k < 5
      · have gk : (k : Int) < 5 := by omega
        have hp : parseT t = .error k := by rw [HLEFT.out]; show parseB k s [[]] = _; rw [parseB, if_neg (by omega)]
        have HP := Lib.hid hp
        clear hp
        go_wp2_with (refine wpList_store_row rfl 63 (.tmp 2) (.tmp 37) rfl w.heap.size (scrCells scrZ (.slice none 0 0)).toArray rfl rfl 63 _ HRES.out infoScr rfl (by simp [scrCells, Value.oneCell']) ?_)
        refine bodyPost_ret (results_row_tmp2 rfl _ _ w.heap.size 63 (scrCells scrZ (.slice none 0 0)).toArray (0, 0) _ rfl (HRES.out.set (scrCells scrZ (.slice none 0 0))) Tryz.underlying63 rfl infoScr) rfl ?_
        exact ⟨by rw [HP.out]; rfl, below_setRow HBEL.out (Nat.le_refl _) _⟩
      · have gk : ¬ (k : Int) < 5 := by omega
        have hp : parseT t = .ok s := by rw [HLEFT.out]; show parseB k s [[]] = _; rw [parseB, if_pos ⟨rfl, by omega⟩]
        have HP := Lib.hid hp
        clear hp
        obtain ⟨pa, pc, rfl, hat⟩ := HST.out.row.at
        have hr : wr.rangeAt (w.heap.size + 1) 0 (scrCells ⟨s.set, []⟩ (.slice pa l.length pc)) := fun j u hu => by rw [Nat.zero_add]; exact (HST.out.box.cell j).trans hu
        have HR := Lib.hid hr
        have hsl : s.acts.length = l.length := by rw [HAC.out, List.length_map]
        have HSL := Lib.hid hsl
        clear hr hat hsl
        go_wp2_with (first
          | (refine wpList_load_mid rfl 63 (.tmp 5) rfl (w.heap.size + 1) 0 rfl (scrCells ⟨s.set, []⟩ (.slice pa l.length pc)) _ HR.out Tryz.underlying63 rfl infoScr ?_)
          | (refine wpList_store_row rfl 63 (.tmp 2) (.tmp 39) rfl w.heap.size (scrCells ⟨s.set, []⟩ (.slice pa l.length pc)).toArray rfl rfl 63 _ HRES.out infoScr rfl (by simp [scrCells, Value.oneCell']) ?_))
        refine bodyPost_ret (results_row_tmp2 rfl _ _ w.heap.size 63 (scrCells ⟨s.set, []⟩ (.slice pa l.length pc)).toArray (0, 0) _ rfl (HRES.out.set (scrCells ⟨s.set, []⟩ (.slice pa l.length pc))) Tryz.underlying63 rfl infoScr) rfl ?_
        refine ⟨?_, below_setRow HBEL.out (Nat.le_refl _) _⟩
        rw [HP.out]
        have hrow : AcRow (wr.setRow w.heap.size (scrCells ⟨s.set, []⟩ (.slice pa l.length pc)).toArray) 0 (w.heap.size + 2) (.slice pa l.length pc) l := HST.out.row.turn (grownBy_setRow _ _ _) (fun i e => by injection e with e; omega)
        refine ⟨pa, pc, l, ?_, HAC.out, ?_⟩
        · rw [HSL.out]; rfl
        · rw [HSL.out]; exact hrow.mono (by omega)
    | cons c0 r0 =>
      have he : (txt (c0 :: r0)).toList.isEmpty = false := by rw [toList_bs]; rfl
      generalize hrest : c0 :: r0 = rest at *
      have hrne : rest ≠ [] := by rw [← hrest]; simp
      clear hrest
      have hcut := fun W he => cut_any rest hrl W he
      have HC := Lib.hid hcut
      clear hcut
      rcases first_at 10 rest with hno | ⟨p, r, hpr, hno⟩
      · have hp : parseT t = .error k := by rw [HLEFT.out, cutsL_end 10 rest hno, parseB, if_neg (fun h => hrne h.1)]
        have HP := Lib.hid hp
        rw [cut_miss rest hno] at HC
        clear hp hrne hno
        go_wp2_with (first
          | (go_at_call 81; refine (HC.out _ (HE.out.below HBEL.out)).mono ?_; rintro e w1 ⟨rfl, hb1⟩; have hres1 := HRES.out.below hb1 HRES.out.lt)
          | (refine wpList_store_row rfl 63 (.tmp 2) (.tmp 32) rfl w.heap.size (scrCells scrZ (.slice none 0 0)).toArray rfl rfl 63 _ hres1 infoScr rfl (by simp [scrCells, Value.oneCell']) ?_))
        refine bodyPost_ret (results_row_tmp2 rfl _ _ w.heap.size 63 (scrCells scrZ (.slice none 0 0)).toArray (0, 0) _ rfl (hres1.set (scrCells scrZ (.slice none 0 0))) Tryz.underlying63 rfl infoScr) rfl ?_
        exact ⟨by rw [HP.out]; rfl, below_setRow (HBEL.out.trans (hb1.mono HBEL.out.size)) (Nat.le_refl _) _⟩
      · subst hpr
        rw [cut_hit p r hno] at HC
        have hps : (txt p).size ≤ 1000000 := by
          rw [← bs_length, bs_txt]
          exact HSM.out p (by rw [cutsL_at 10 p r hno]; simp)
        have hleft2 : parseT t = parseB k s (p :: cutsL 10 r) := by rw [HLEFT.out, cutsL_at 10 p r hno]
        have hsm2 : ∀ c ∈ cutsL 10 r, c.length ≤ 1000000 := fun c hc => HSM.out c (by rw [cutsL_at 10 p r hno]; simp [hc])
        have hadd : ∀ W, PSt 0 (w.heap.size + 2) W (w.heap.size + 1) s.set v l → Env W → Calls Tryz.prog 82 #[.pointer (some ⟨w.heap.size + 1, 0, none⟩), .int .i64 k, .string (txt p)] W fun e w' => addR 0 (w.heap.size + 2) (w.heap.size + 1) (stepP k ⟨s.set, l.map (·.1)⟩ (txt p)) e w' ∧ Below (w.heap.size + 1) W w' := fun W h he => by
          by_cases hk5 : k < 5
          · exact add_set k hk5 (txt p) hps (w.heap.size + 1) _ _ _ (Nat.le_refl _) _ _ _ W h he
          · exact add_act k (by omega) (txt p) hps (w.heap.size + 1) _ _ _ (Nat.le_refl _) _ _ _ hll W h he
        rw [show (⟨s.set, l.map (·.1)⟩ : Scr) = s by rw [← HAC.out]] at hadd
        have HADD := Lib.hid hadd
        have HL2 := Lib.hid hleft2
        have HS2 := Lib.hid hsm2
        clear hadd hleft2 hsm2 hps hno hrne HLEFT HSM
        cases hs : stepP k s (txt p) with
        | none =>
          rw [hs] at HADD
          have hp : parseT t = .error k := by rw [HL2.out, parseB_bad (cutsL_ne _ _) hs]
          have HP := Lib.hid hp
          clear hp hs
          go_wp2_with (first
            | (go_at_call 81; refine (HC.out _ (HE.out.below HBEL.out)).mono ?_; rintro e w1 ⟨rfl, hb1⟩; have hres1 := HRES.out.below hb1 HRES.out.lt; have hbel1 := HBEL.out.trans (hb1.mono HBEL.out.size))
            | (go_at_call 82; refine (HADD.out _ (HST.out.below hb1) (HE.out.below hbel1)).mono ?_; rintro e w2 ⟨rfl, hb2⟩; have hres2 := hres1.below hb2 (Nat.lt_succ_self _); have hbel2 := hbel1.trans (hb2.mono (Nat.le_succ _)))
            | (refine wpList_store_row rfl 63 (.tmp 2) (.tmp 32) rfl w.heap.size (scrCells scrZ (.slice none 0 0)).toArray rfl rfl 63 _ hres2 infoScr rfl (by simp [scrCells, Value.oneCell']) ?_))
          refine bodyPost_ret (results_row_tmp2 rfl _ _ w.heap.size 63 (scrCells scrZ (.slice none 0 0)).toArray (0, 0) _ rfl (hres2.set (scrCells scrZ (.slice none 0 0))) Tryz.underlying63 rfl infoScr) rfl ?_
          exact ⟨by rw [HP.out]; rfl, below_setRow hbel2 (Nat.le_refl _) _⟩
        | some s2 =>
          rw [hs] at HADD
          have hp : parseT t = parseB (k + 1) s2 (cutsL 10 r) := by rw [HL2.out, parseB_step (cutsL_ne _ _) hs]
          have HP := Lib.hid hp
          have hl2 : s2.acts.length ≤ 65536 := by
            have hsl : s.acts.length = l.length := by rw [HAC.out, List.length_map]
            by_cases hk5 : k < 5
            · obtain ⟨v', _, _, e, _⟩ := step_set hk5 hs
              rw [e]; simp only; omega
            · obtain ⟨a', _, hne, e⟩ := step_act (by omega) hs
              rw [e]; simp only [List.length_append, List.length_singleton]; omega
          clear hp hs
          have hlen : (p ++ 10 :: r).length = p.length + (r.length + 1) := by simp
          rw [hlen] at hrl hsize
          go_wp2_with (first
            | (go_at_call 81; refine (HC.out _ (HE.out.below HBEL.out)).mono ?_; rintro e w1 ⟨rfl, hb1⟩; have hres1 := HRES.out.below hb1 HRES.out.lt; have hbel1 := HBEL.out.trans (hb1.mono HBEL.out.size))
            | (go_at_call 82; refine (HADD.out _ (HST.out.below hb1) (HE.out.below hbel1)).mono ?_; rintro e w2 ⟨⟨rfl, v2, l2, hac2, hst2⟩, hb2⟩; have hres2 := hres1.below hb2 (Nat.lt_succ_self _); have hbel2 := hbel1.trans (hb2.mono (Nat.le_succ _))))
          go_roundw
          case rel =>
            refine ⟨k + 1, r, s2, v2, l2, rfl, by go_num, by omega, by omega, Lib.hid ⟨hbel2, hres2, hst2, hac2, ?_, HP.out, HS2.out, by omega⟩⟩
            have : l2.length = s2.acts.length := by rw [hac2, List.length_map]
            omega
          case measure =>
            have e1 : ∀ x : Bs, (txt x).size = x.length := fun x => by rw [← bs_length, bs_txt]
            simp [strLen, e1]; omega
theorem parse_any (t : ByteArray) (ht : t.size ≤ 4194304) (hsm : ∀ c ∈ cutsL 10 (bs t), c.length ≤ 1000000) (w : World) (henv : Env w) :
    Calls Tryz.prog 36 #[.string t] w fun e w' => parseR (parseT t) e w' ∧ Below w.heap.size w w' := (parse_own t ht hsm w henv).mono fun _ _ ⟨h1, h2⟩ => ⟨parseF_R h1, h2⟩
set_option maxRecDepth 100000 in
set_option maxHeartbeats 1000000 in
theorem parse_long (t : ByteArray) (ht : 4194304 < t.size) (w : World) : Calls Tryz.prog 36 #[.string t] w fun e w' => e = .returned (.tuple #[scrZV, .int .i64 0, .int .i64 3]) ∧ Below w.heap.size w w' := by
  have g0 : (4194304 : Int) < (t.size : Int) := by omega
  have hB := Blk.new w 63 (scrCells scrZ (.slice none 0 0))
  have hb : Below w.heap.size w (w.alloc (.cells (scrCells scrZ (.slice none 0 0)).toArray 63)) := (Below.refl _ w).alloc (Nat.le_refl _) _
  go_enter Tryz.func36, Tryz.ntmps36
  go_wp2_with (refine wpList_store_row rfl 63 (.tmp 2) (.tmp 13) rfl w.heap.size (scrCells scrZ (.slice none 0 0)).toArray rfl rfl 63 _ hB infoScr rfl (by simp [scrCells, Value.oneCell']) ?_)
  refine bodyPost_ret (results_row_tmp2 rfl _ _ w.heap.size 63 (scrCells scrZ (.slice none 0 0)).toArray (0, 0) _ rfl (hB.set (scrCells scrZ (.slice none 0 0))) Tryz.underlying63 rfl infoScr) rfl ?_
  exact ⟨rfl, below_setRow hb (Nat.le_refl _) _⟩
end Go.Proofs.YtgplaeopcejmoaaGreatDoor
