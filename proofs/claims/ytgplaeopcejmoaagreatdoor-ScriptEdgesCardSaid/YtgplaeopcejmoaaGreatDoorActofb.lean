/- What stands while an act is gathered out of a line; ints of the call's own. The walk of ActOf. -/
import Derived.Test.YtgplaeopcejmoaaGreatDoorActtx
import Derived.Deep.MidRow
import Derived.Deep.LoopGhost
namespace Go.Proofs.YtgplaeopcejmoaaGreatDoor
open Go.RowKit Go.Shelf

theorem hasA_any (p : Addr) (m f : Int) (w : World) (hc : w.cell? p = some (.int .i64 m)) :
    Calls Tryz.prog 68 #[.int .i64 f, .pointer (some p)] w fun e w' => e = .returned (.bool (hasF m f)) ∧ w = w' := by
  go_enter Tryz.func68, Tryz.ntmps68
  go_wp2
  go_ret
  exact ⟨rfl, rfl⟩
theorem hasA_at {p : Addr} {m f : Int} {b : Bool} (hb : hasF m f = b) {w : World} (hc : w.cell? p = some (.int .i64 m)) :
    Calls Tryz.prog 68 #[.int .i64 f, .pointer (some p)] w fun e w' => e = .returned (.bool b) ∧ w = w' := hb ▸ hasA_any p m f w hc

/-- ints of the call's own -/
def cellsI (l : List Int) : List Value := l.map (.int .i64)
def OwnI (w : World) (base : Nat) (v : Value) (l : List Int) : Prop := w.ownsRow base 3 1 v l.length (cellsI l)
theorem infoInt : (Tryz.prog.info? 3).map (fun i => (i.zero, i.size, i.bytes)) = some (some (.int .i64 0), 1, 8) := by kernel_rfl
theorem OwnI.nil (w : World) (base : Nat) : OwnI w base (.slice none 0 0) [] := World.ownsRow_nil _ _ _ _
theorem OwnI.form {w : World} {base : Nat} {v : Value} {l : List Int} (h : OwnI w base v l) (hl : l ≠ []) : ∃ g cap, v = .slice (some ⟨g, 0, none⟩) l.length cap ∧ base ≤ g ∧ g < w.heap.size :=
  World.ownsRow.form h (List.length_pos_iff.2 hl)
theorem OwnI.any {w : World} {base : Nat} {v : Value} {l : List Int} (h : OwnI w base v l) : ∃ A c, v = .slice A l.length c := by
  rcases h.2 with ⟨rfl, hx⟩ | ⟨g, cap, cur, rfl, _⟩
  · have hl : l = [] := List.eq_nil_of_length_eq_zero hx
    subst hl; exact ⟨none, 0, rfl⟩
  · exact ⟨_, _, rfl⟩
theorem OwnI.size {w : World} {base : Nat} {v : Value} {l : List Int} (h : OwnI w base v l) : ∀ k, v.ownBlock = some k → base ≤ k := by
  intro k e
  rcases h.2 with ⟨rfl, _⟩ | ⟨g, cap, cur, rfl, hb, _⟩
  · simp [Value.ownBlock] at e
  · obtain rfl : g = k := by simpa [Value.ownBlock] using e
    exact hb
theorem OwnI.kept {w w' : World} {base : Nat} {v : Value} {l : List Int} {row : Option Nat} (h : OwnI w base v l) (hg : w.grownBy w' row) (hr : ∀ i, row = some i → i < base) : OwnI w' base v l := by
  refine World.ownsRow.kept h hg ?_
  cases e : v.ownBlock with
  | none => exact .inl rfl
  | some g =>
    refine .inr fun e' => ?_
    have := hr g e'.symm
    have := h.size g e
    omega
theorem OwnI.alloc {w : World} {base : Nat} {v : Value} {l : List Int} (h : OwnI w base v l) (x : Obj) : OwnI (w.alloc x) base v l := h.kept (World.grownBy_alloc w x none) (by simp)
theorem OwnI.cells {w : World} {base : Nat} {v : Value} {l : List Int} (h : OwnI w base v l) {g o : Nat} {n c : Nat} (hv : v = .slice (some ⟨g, o, none⟩) n c) : ∀ j x, l[j]? = some x → w.cell? ⟨g, o + j, none⟩ = some (.int .i64 x) := by
  intro j x hx
  rcases h.2 with ⟨h', _⟩ | ⟨g', cap, cur, h', _⟩
  · rw [h'] at hv; cases hv
  · have hc := World.ownsRow.cells h (g := g') (by rw [h']; rfl)
    rw [h'] at hv
    cases hv
    have := hc j (.int .i64 x) (by simp [cellsI, hx])
    rw [Addr.add_lit] at this
    exact this
theorem append_i (w : World) (base : Nat) (v : Value) (xs : List Int) (hown : OwnI w base v xs) (hn : xs.length ≤ 100000) (hbase : base ≤ w.heap.size) (ad : Addr) (m c : Nat) (news : List Int) (hm : m = news.length) (hn2 : m ≤ 100000)
    (hnews : ∀ j u, (cellsI news)[j]? = some u → w.cell? (ad.add j) = some u) (ty : TypeId) :
    ∃ v' w', (∀ cs, (builtin .append #[37, 37] ty cs #[v, .slice (some ad) m c]).run Tryz.prog w = .ok (.value v') w') ∧ OwnI w' base v' (xs ++ news) ∧ w.grownBy w' v.ownBlock := by
  subst hm
  obtain ⟨i0, hi0, hz0, hz1, hz2⟩ := info_parts infoInt
  obtain ⟨v', w', hr, h1, h2, _⟩ := run_append_own (P := Tryz.prog) w base 37 ty 3 i0 _ 1 8 Tryz.underlying37 hi0 hz0 hz1 hz2 rfl (by omega) v xs.length (cellsI xs) hown ad news.length c (cellsI news) (by simp [cellsI]) hnews (by
    intro u hu
    obtain ⟨b, _, rfl⟩ := List.mem_map.1 hu
    rfl) (by unfold maxLen; omega) (by omega) hbase
  refine ⟨v', w', fun _ => by simp only [builtin, Sem.run_bind, hr, Result.andThen_ok, Sem.run_pure], ?_, h2⟩
  unfold OwnI
  have e : cellsI (xs ++ news) = cellsI xs ++ cellsI news := by simp [cellsI]
  rw [List.length_append, e]
  exact h1
theorem step_append_i {w : World} {ops : Array Oper} {o : Oper} {a : Act} {K : Act → World → Prop} {Q : Exit → Act → World → Prop} {E : Prop} (hgd : o.guard = none) (s x : Operand)
    (ho : o.op = .call { callee := .builtin .append, args := #[s, x], argTypes := #[37, 37] }) (base : Nat) (v : Value) (xs : List Int) (ad : Addr) (m c : Nat) (news : List Int) (hs : a.eval s = v) (hx : a.eval x = .slice (some ad) m c)
    (hown : OwnI w base v xs) (hn : xs.length ≤ 100000) (hbase : base ≤ w.heap.size) (hm : m = news.length) (hn2 : m ≤ 100000) (hnews : ∀ j u, (cellsI news)[j]? = some u → w.cell? (ad.add j) = some u)
    (h : ∀ v' w', OwnI w' base v' (xs ++ news) → w.grownBy w' v.ownBlock → K (a.put o.dst v') w') : if Region.wanted o (yielded ops a.tmps) = true then Oper.wp Tryz.prog o a w K Q else E := by
  obtain ⟨v', w', hr, h1, h2⟩ := append_i w base v xs hown hn hbase ad m c news hm hn2 hnews o.type
  exact step_two hgd .append s x #[37, 37] ho v _ hs hx hr (h v' w' h1 h2)
theorem news_i (w : World) (l : List Int) (j : Nat) (u : Value) (h : (cellsI l)[j]? = some u) : (w.alloc (.cells (cellsI l).toArray 3)).cell? ((⟨w.heap.size, 0, none⟩ : Addr).add j) = some u := by
  rw [Addr.add_lit]
  have := (Blk.new w 3 (cellsI l)).cell (0 + j)
  rw [this, Nat.zero_add]; exact h

/-- an act out of a line's words -/
def takePicks : List ByteArray → Bool → List Int → List Int × LS
  | [], wr, acc => (acc, ([], wr))
  | x :: ws, wr, acc => if !wr && decide (acc.length ≤ 512) then takePicks ws (intV x).2 (acc ++ [(intV x).1]) else (acc, (x :: ws, wr))
def arZero : Ar := ⟨0, 0, 0, 0, opZero, []⟩
def sa1 (m : Int) (p : Ar × LS) : Ar × LS := if hasF m 1 then ({ p.1 with node := (intV (hd p.2)).1 }, adv p.2 (intV (hd p.2)).2) else p
def sa2 (m : Int) (p : Ar × LS) : Ar × LS := if hasF m 2 then ({ p.1 with source := (intV (hd p.2)).1 }, adv p.2 (intV (hd p.2)).2) else p
def sa4 (m : Int) (p : Ar × LS) : Ar × LS := if hasF m 4 then ({ p.1 with n := (intV (hd p.2)).1 }, adv p.2 (intV (hd p.2)).2) else p
def sa8 (m : Int) (p : Ar × LS) : Ar × LS := if hasF m 8 then ({ p.1 with op := (opOfS p.2).1 }, (opOfS p.2).2) else p
def sa16 (m : Int) (p : Ar × LS) : Ar × LS := if hasF m 16 then ({ p.1 with picks := (takePicks p.2.1 p.2.2 []).1 }, (takePicks p.2.1 p.2.2 []).2) else p
def actOfM (m : Int) (p : Ar × LS) : Ar × LS := sa16 m (sa8 m (sa4 m (sa2 m (sa1 m p))))
def kindOfA (x : ByteArray) : Int := 1 + Lib.idxOfS actNames x
def actOfS (s : LS) : Ar × LS := actOfM ((getI ofActL (kindOfA (hd s))).getD 0) ({ arZero with kind := kindOfA (hd s) }, adv s false)
def actOfT (s : ByteArray) : Option Ar := if ((getI ofActL (kindOfA (hd (lineS s)))).isSome && doneS (actOfS (lineS s)).2) && mayAct (actOfS (lineS s)).1 then some (actOfS (lineS s)).1 else none

def setL : List Value → Nat → List Value → List Value
  | L, _, [] => L
  | L, o, v :: r => setL (L.set o v) (o + 1) r
theorem Blk.setCells {g : Nat} {e : TypeId} : ∀ (vs : List Value) {w : World} {L : List Value} (o : Nat), Blk w g e L → o + vs.length ≤ L.length → Blk (w.setCells g o vs) g e (setL L o vs)
  | [], _, _, _, h, _ => h
  | v :: r, w, L, o, h, hl => by
    rw [World.setCells]
    simp only [List.length_cons] at hl
    exact Blk.setCells r (o + 1) (h.setCell o v (by omega)) (by simp; omega)
theorem grown_setCells (g : Nat) : ∀ (vs : List Value) (w : World) (o : Nat), w.grownBy (w.setCells g o vs) (some g)
  | [], w, _ => ⟨rfl, rfl, rfl, Nat.le_refl _, fun _ _ _ => rfl⟩
  | v :: r, w, o => by
    rw [World.setCells]
    exact grownBy_trans (grown_setCell w g o v) (grown_setCells g r _ (o + 1))
theorem blk_ne {w : World} {x y : Nat} {T T' : TypeId} {L L' : List Value} (h : Blk w x T L) (h' : Blk w y T' L') (hT : T ≠ T') : x ≠ y := by
  intro e
  subst e
  have := (show w.heap[x]? = _ from h).symm.trans h'
  simp at this
  exact hT this.2
theorem Blk.there {w : World} {g : Nat} {e : TypeId} {L : List Value} (h : Blk w g e L) {o n : Nat} (hn : o + n ≤ L.length) : w.there g o n := fun j hj => by
  refine ⟨?_, h.frozen _⟩
  rw [h.cell, List.getElem?_eq_getElem (by omega)]
  rfl

/-- what stands while an act is gathered -/
structure Gac (w W : World) (b g : Nat) (s : LS) (rb ab : Nat) (C : List Value) : Prop where
  below : Below w.heap.size w W
  line : LineAt W b g s.1 s.2
  res : Blk W rb 39 (actCells arZero (.slice none 0 0))
  box : Blk W ab 39 C
  bB : w.heap.size ≤ b
  gB : w.heap.size ≤ g
  rbB : w.heap.size ≤ rb
  abB : w.heap.size ≤ ab
  ne : rb ≠ ab
theorem LineAt.blk {w : World} {b g : Nat} {ws : List ByteArray} {wr : Bool} (h : LineAt w b g ws wr) : (∃ L, Blk w b 118 L) ∧ ∃ L, Blk w g 9 L := by
  obtain ⟨⟨all, a, o, c, hb, hg', _⟩, _⟩ := h
  exact ⟨⟨_, hb⟩, ⟨_, hg'⟩⟩
theorem Gac.next {w W W' : World} {b g : Nat} {s : LS} {rb ab : Nat} {C : List Value} (h : Gac w W b g s rb ab C) (hb : Below W.heap.size W W') : Gac w W' b g s rb ab C :=
  ⟨h.below.trans (hb.mono h.below.size), h.line.below hb, h.res.below hb h.res.lt, h.box.below hb h.box.lt, h.bB, h.gB, h.rbB, h.abB, h.ne⟩
theorem Gac.alloc {w W : World} {b g : Nat} {s : LS} {rb ab : Nat} {C : List Value} (h : Gac w W b g s rb ab C) (x : Obj) : Gac w (W.alloc x) b g s rb ab C := h.next ((Below.refl _ _).alloc (Nat.le_refl _) _)
theorem Gac.took {w W W' : World} {b g : Nat} {s : LS} {rb ab : Nat} {C : List Value} (h : Gac w W b g s rb ab C) {s' : LS} (hl : LineAt W' b g s'.1 s'.2) (hg : W.grownBy W' (some b)) : Gac w W' b g s' rb ab C := by
  obtain ⟨⟨L, hL⟩, _⟩ := h.line.blk
  have n1 := blk_ne h.res hL (by decide)
  have n2 := blk_ne h.box hL (by decide)
  exact ⟨h.below.grown hg h.below.size (fun i e => by injection e with e; have := h.bB; omega), hl, h.res.grown hg (fun e => by injection e with e; exact n1 e), h.box.grown hg (fun e => by injection e with e; exact n2 e), h.bB, h.gB, h.rbB, h.abB, h.ne⟩
theorem Gac.turn {w W W' : World} {b g : Nat} {s : LS} {rb ab : Nat} {C : List Value} (h : Gac w W b g s rb ab C) {row : Option Nat} (hg : W.grownBy W' row) (h0 : ∀ i, row = some i → w.heap.size ≤ i) (h1 : some b ≠ row) (h2 : some g ≠ row) (h3 : some rb ≠ row) (h4 : some ab ≠ row) : Gac w W' b g s rb ab C :=
  ⟨h.below.grown hg h.below.size h0, h.line.grown hg h1 h2, h.res.grown hg h3, h.box.grown hg h4, h.bB, h.gB, h.rbB, h.abB, h.ne⟩
theorem Gac.ab_ne {w W : World} {b g : Nat} {s : LS} {rb ab : Nat} {C : List Value} (h : Gac w W b g s rb ab C) : b ≠ ab ∧ g ≠ ab := by
  obtain ⟨⟨L, hL⟩, ⟨L', hL'⟩⟩ := h.line.blk
  exact ⟨Ne.symm (blk_ne h.box hL (by decide)), Ne.symm (blk_ne h.box hL' (by decide))⟩
theorem Gac.field {w W : World} {b g : Nat} {s : LS} {rb ab : Nat} {C : List Value} (h : Gac w W b g s rb ab C) (j : Nat) (v : Value) (C' : List Value) (hj : j < C.length) (hC : C.set j v = C') : Gac w (W.setCell ⟨ab, j, none⟩ v) b g s rb ab C' := by
  obtain ⟨n1, n2⟩ := h.ab_ne
  have hg := grown_setCell W ab j v
  exact ⟨h.below.grown hg h.below.size (fun i e => by injection e with e; have := h.abB; omega), h.line.grown hg (fun e => by injection e with e; exact n1 e) (fun e => by injection e with e; exact n2 e), h.res.grown hg (fun e => by injection e with e; exact h.ne e), hC ▸ h.box.setCell j v hj, h.bB, h.gB, h.rbB, h.abB, h.ne⟩
theorem Gac.fields {w W : World} {b g : Nat} {s : LS} {rb ab : Nat} {C : List Value} (h : Gac w W b g s rb ab C) (j : Nat) (vs : List Value) (C' : List Value) (hj : j + vs.length ≤ C.length) (hC : setL C j vs = C') : Gac w (W.setCells ab j vs) b g s rb ab C' := by
  obtain ⟨n1, n2⟩ := h.ab_ne
  have hg := grown_setCells ab vs W j
  exact ⟨h.below.grown hg h.below.size (fun i e => by injection e with e; have := h.abB; omega), h.line.grown hg (fun e => by injection e with e; exact n1 e) (fun e => by injection e with e; exact n2 e), h.res.grown hg (fun e => by injection e with e; exact h.ne e), hC ▸ h.box.setCells vs j hj, h.bB, h.gB, h.rbB, h.abB, h.ne⟩
theorem Gac.env {w W W' : World} {b g : Nat} {s : LS} {rb ab : Nat} {C : List Value} (h : Gac w W b g s rb ab C) (henv : Env w) (k : W.grownBy W' (some b)) : Env W' :=
  henv.below (h.below.grown k h.below.size (fun i e => by injection e with e; have := h.bB; omega))
end Go.Proofs.YtgplaeopcejmoaaGreatDoor
namespace Go.Proofs.YtgplaeopcejmoaaGreatDoor
open Go.RowKit Go.Shelf

/-- with the names' cell -/
structure Gacn (w W : World) (b g : Nat) (s : LS) (rb ab : Nat) (C : List Value) (m : Int) (nb : Nat) : Prop where
  gac : Gac w W b g s rb ab C
  nam : Blk W nb 3 [.int .i64 m]
  nbB : w.heap.size ≤ nb
theorem Gacn.next {w W W' : World} {b g : Nat} {s : LS} {rb ab : Nat} {C : List Value} {m : Int} {nb : Nat} (h : Gacn w W b g s rb ab C m nb) (hb : Below W.heap.size W W') : Gacn w W' b g s rb ab C m nb :=
  ⟨h.gac.next hb, h.nam.below hb h.nam.lt, h.nbB⟩
theorem Gacn.took {w W W' : World} {b g : Nat} {s : LS} {rb ab : Nat} {C : List Value} {m : Int} {nb : Nat} (h : Gacn w W b g s rb ab C m nb) {s' : LS} (hl : LineAt W' b g s'.1 s'.2) (hg : W.grownBy W' (some b)) : Gacn w W' b g s' rb ab C m nb := by
  obtain ⟨⟨L, hL⟩, _⟩ := h.gac.line.blk
  have n1 := blk_ne h.nam hL (by decide)
  exact ⟨h.gac.took hl hg, h.nam.grown hg (fun e => by injection e with e; exact n1 e), h.nbB⟩
theorem Gacn.field {w W : World} {b g : Nat} {s : LS} {rb ab : Nat} {C : List Value} {m : Int} {nb : Nat} (h : Gacn w W b g s rb ab C m nb) (j : Nat) (v : Value) (C' : List Value) (hj : j < C.length) (hC : C.set j v = C') : Gacn w (W.setCell ⟨ab, j, none⟩ v) b g s rb ab C' m nb :=
  ⟨h.gac.field j v C' hj hC, h.nam.setOther (blk_ne h.nam h.gac.box (by decide)) _ _, h.nbB⟩
theorem Gacn.fields {w W : World} {b g : Nat} {s : LS} {rb ab : Nat} {C : List Value} {m : Int} {nb : Nat} (h : Gacn w W b g s rb ab C m nb) (j : Nat) (vs : List Value) (C' : List Value) (hj : j + vs.length ≤ C.length) (hC : setL C j vs = C') : Gacn w (W.setCells ab j vs) b g s rb ab C' m nb := by
  have n1 := blk_ne h.nam h.gac.box (by decide)
  exact ⟨h.gac.fields j vs C' hj hC, h.nam.grown (grown_setCells ab vs W j) (fun e => by injection e with e; exact n1 e), h.nbB⟩
theorem Gacn.turn {w W W' : World} {b g : Nat} {s : LS} {rb ab : Nat} {C : List Value} {m : Int} {nb : Nat} (h : Gacn w W b g s rb ab C m nb) {row : Option Nat} (hg : W.grownBy W' row) (h0 : ∀ i, row = some i → w.heap.size ≤ i) (h1 : some b ≠ row) (h2 : some g ≠ row) (h3 : some rb ≠ row) (h4 : some ab ≠ row) (h5 : some nb ≠ row) : Gacn w W' b g s rb ab C m nb :=
  ⟨h.gac.turn hg h0 h1 h2 h3 h4, h.nam.grown hg h5, h.nbB⟩
theorem idxFrom_range (x : ByteArray) : ∀ (l : List ByteArray) (k : Nat), -1 ≤ Lib.idxFromS l x k ∧ Lib.idxFromS l x k < (k : Int) + l.length
  | [], k => by unfold Lib.idxFromS; constructor <;> simp <;> omega
  | y :: r, k => by
    have ih := idxFrom_range x r (k + 1)
    unfold Lib.idxFromS
    split
    · constructor <;> simp <;> omega
    · constructor
      · exact ih.1
      · have := ih.2
        simp only [List.length_cons]; omega
theorem opof_x (b g : Nat) (s : LS) (w : World) (hl : LineAt w b g s.1 s.2) (hbe : ∀ w', w.grownBy w' (some b) → Env w') :
    Calls Tryz.prog 63 #[.pointer (some ⟨b, 0, none⟩)] w fun e w' => ∃ o d, opOfS s = (o, d) ∧ e = .returned (opV o) ∧ LineAt w' b g d.1 d.2 ∧ w.grownBy w' (some b) :=
  (opof_any b g s.1 s.2 w hl hbe).mono fun _ _ ⟨h1, h2, h3⟩ => ⟨_, _, rfl, h1, h2, h3⟩
theorem actNames_get (j : Nat) (h : j < actNames.length) : (actNames.map Value.string)[j]? = some (.string (actNames.getD j ByteArray.empty)) := by
  rw [List.getElem?_map, List.getElem?_eq_getElem h, List.getD_eq_getElem?_getD, List.getElem?_eq_getElem h]
  rfl
/-- how ActOf ends -/
def ActRes (w w' : World) (o : Option Ar) (e : Ending) : Prop :=
  ∃ pa pc, e = .returned (.tuple #[.agg (actCells (o.getD arZero) (.slice pa (o.getD arZero).picks.length pc)).toArray, .int .i64 (if o.isSome then 0 else 4)]) ∧
    ((o.getD arZero).picks ≠ [] → ∃ g, pa = some ⟨g, 0, none⟩ ∧ w.heap.size ≤ g ∧ ∀ j x, (o.getD arZero).picks[j]? = some x → w'.cell? ⟨g, j, none⟩ = some (.int .i64 x))
theorem actRes_none {w w' : World} : ActRes w w' none (.returned (.tuple #[.agg (actCells arZero (.slice none 0 0)).toArray, .int .i64 4])) := ⟨none, 0, rfl, fun h => absurd rfl h⟩
theorem actRes_some {w w' : World} {a : Ar} {pv : Value} {base : Nat} (ho : OwnI w' base pv a.picks) (hb : w.heap.size ≤ base) : ActRes w w' (some a) (.returned (.tuple #[.agg (actCells a pv).toArray, .int .i64 0])) := by
  obtain ⟨A, c, rfl⟩ := ho.any
  refine ⟨A, c, rfl, fun hne => ?_⟩
  obtain ⟨g, cap, hv, hg, _⟩ := ho.form hne
  cases hv
  exact ⟨g, rfl, by omega, fun j x hx => by have := ho.cells rfl j x hx; rw [Nat.zero_add] at this; exact this⟩
theorem takePicks_stop {ws : List ByteArray} {wr : Bool} {acc : List Int} (h : wr = true ∨ ws = [] ∨ 512 < acc.length) : takePicks ws wr acc = (acc, (ws, wr)) := by
  cases ws with
  | nil => rfl
  | cons y r =>
    rcases h with rfl | h | h
    · rfl
    · cases h
    · have : decide (acc.length ≤ 512) = false := by simp; omega
      simp [takePicks, this]
theorem takePicks_go (y : ByteArray) (ws : List ByteArray) {acc : List Int} (h : acc.length ≤ 512) : takePicks (y :: ws) false acc = takePicks ws (intV y).2 (acc ++ [(intV y).1]) := by
  simp [takePicks, h]
theorem actCells_one (a : Ar) (A : Option Addr) (n c : Nat) : (actCells a (.slice A n c)).toArray.all (·.oneCell') = true := by simp [actCells, Value.oneCell']
theorem hb9_1 : hasF 9 1 = true := by decide
theorem hb9_2 : hasF 9 2 = false := by decide
theorem hb9_4 : hasF 9 4 = false := by decide
theorem hb9_8 : hasF 9 8 = true := by decide
theorem hb9_16 : hasF 9 16 = false := by decide
theorem hb4_1 : hasF 4 1 = false := by decide
theorem hb4_2 : hasF 4 2 = false := by decide
theorem hb4_4 : hasF 4 4 = true := by decide
theorem hb4_8 : hasF 4 8 = false := by decide
theorem hb4_16 : hasF 4 16 = false := by decide
theorem hb1_1 : hasF 1 1 = true := by decide
theorem hb1_2 : hasF 1 2 = false := by decide
theorem hb1_4 : hasF 1 4 = false := by decide
theorem hb1_8 : hasF 1 8 = false := by decide
theorem hb1_16 : hasF 1 16 = false := by decide
theorem hb5_1 : hasF 5 1 = true := by decide
theorem hb5_2 : hasF 5 2 = false := by decide
theorem hb5_4 : hasF 5 4 = true := by decide
theorem hb5_8 : hasF 5 8 = false := by decide
theorem hb5_16 : hasF 5 16 = false := by decide
theorem hb17_1 : hasF 17 1 = true := by decide
theorem hb17_2 : hasF 17 2 = false := by decide
theorem hb17_4 : hasF 17 4 = false := by decide
theorem hb17_8 : hasF 17 8 = false := by decide
theorem hb17_16 : hasF 17 16 = true := by decide
theorem hb21_1 : hasF 21 1 = true := by decide
theorem hb21_2 : hasF 21 2 = false := by decide
theorem hb21_4 : hasF 21 4 = true := by decide
theorem hb21_8 : hasF 21 8 = false := by decide
theorem hb21_16 : hasF 21 16 = true := by decide
theorem hb3_1 : hasF 3 1 = true := by decide
theorem hb3_2 : hasF 3 2 = true := by decide
theorem hb3_4 : hasF 3 4 = false := by decide
theorem hb3_8 : hasF 3 8 = false := by decide
theorem hb3_16 : hasF 3 16 = false := by decide
theorem hb0_1 : hasF 0 1 = false := by decide
theorem hb0_2 : hasF 0 2 = false := by decide
theorem hb0_4 : hasF 0 4 = false := by decide
theorem hb0_8 : hasF 0 8 = false := by decide
theorem hb0_16 : hasF 0 16 = false := by decide
end Go.Proofs.YtgplaeopcejmoaaGreatDoor
