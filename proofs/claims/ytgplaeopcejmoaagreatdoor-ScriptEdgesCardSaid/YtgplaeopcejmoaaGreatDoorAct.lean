/- The walk of OpOf. Acts: what a kind names; the acts' names; MayAct. -/
import Derived.Test.YtgplaeopcejmoaaGreatDoorOpof
import Derived.Deep.WholeRow
namespace Go.Proofs.YtgplaeopcejmoaaGreatDoor
open Go.RowKit Go.Shelf

def lineS (s : ByteArray) : LS := (Lib.splitB ⟨#[32]⟩ 0 (Lib.countB s ⟨#[32]⟩) s, false)
/-- is nothing wrong, and nothing left -/
def doneS (s : LS) : Bool := !s.2 && s.1.isEmpty
/-- a line's operation -/
def opOfT (s : ByteArray) : Option Opr := if doneS (opOfS (lineS s)).2 && mayOp (opOfS (lineS s)).1 then some (opOfS (lineS s)).1 else none
def opOfV (o : Option Opr) : Value := match o with
  | some o => .tuple #[opV o, .int .i64 0]
  | none => .tuple #[opV opZero, .int .i64 4]
theorem below_grown {w0 w w' : World} {b : Nat} (h : Below w0.heap.size w0 w) (hb : w0.heap.size ≤ b) (k : w.grownBy w' (some b)) : Below w0.heap.size w0 w' :=
  h.grown k h.size (fun j e => by injection e with e; omega)
theorem mayop_o (o : Opr) (w : World) : Calls Tryz.prog 19 #[opV o] w fun e w' => e = .returned (.bool (mayOp o)) ∧ Below w.heap.size w w' :=
  mayop_any o.kind o.n o.key o.til o.value o.level o.lsn w
theorem results_row_tmp {P : Program} {fn : Func} {p u : Tmp} {ty : TypeId} (h : fn.results = #[.cell p ty, .tmp u]) (tmps : Array Value) (w : World) (g : Nat) (t : TypeId) (cs : Array Value) (fr : Nat × Nat) (d : TypeDesc)
    (hp : tmps.getD p undef = .pointer (some ⟨g, 0, none⟩)) (hg : w.heap[g]? = some (.cells cs t fr))
    (hu : P.underlying ty = some d) (hd : (match d with | .struct _ | .array _ _ => true | _ => false) = true) (hi : (P.info? ty).map (·.size) = some cs.size) :
    (results fn tmps).run P w = .ok (.tuple #[.agg cs, tmps.getD u undef]) w := by
  rw [results_cell_tmp h, hp]
  simp [asAddr, run_loadVar_row w g t ty cs fr d hg hu hd hi, Result.andThen]
theorem below_setRow {w w' : World} {b : Nat} (h : Below w.heap.size w w') (hb : w.heap.size ≤ b) (cs : Array Value) : Below w.heap.size w (w'.setRow b cs) :=
  h.grown (grownBy_setRow w' b cs) h.size (fun j e => by injection e with e; omega)
theorem Blk.row {w : World} {b : Nat} {e : TypeId} {L K : List Value} (h : Blk w b e L) : Blk (w.setRow b K.toArray) b e K := h.set K

set_option maxRecDepth 100000 in
set_option maxHeartbeats 4000000 in
theorem opofT_any (s : ByteArray) (hs : s.size ≤ 1000000) (w : World) (henv : Env w) :
    Calls Tryz.prog 22 #[.string s] w fun e w' => e = .returned (opOfV (opOfT s)) ∧ Below w.heap.size w w' := by
  have hR0 := Blk.new w 34 (opCells opZero)
  have hb0 : Below w.heap.size w (w.alloc (.cells (opCells opZero).toArray 34)) := (Below.refl _ _).alloc (Nat.le_refl _) _
  obtain ⟨o, ls, ho⟩ : ∃ o ls, opOfS (lineS s) = (o, ls) := ⟨_, _, rfl⟩
  obtain ⟨d, hd⟩ : ∃ d, doneS ls = d := ⟨_, rfl⟩
  obtain ⟨m, hm⟩ : ∃ m, mayOp o = m := ⟨_, rfl⟩
  have hT : opOfT s = if d && m then some o else none := by unfold opOfT; rw [ho, hd, hm]
  rw [hT]
  have HO := Lib.hid ho; have HD := Lib.hid hd; have HM := Lib.hid hm
  clear ho hd hm hT
  cases d <;> cases m
  all_goals
    go_enter Tryz.func22, Tryz.ntmps22
    go_wp2_with (first
      | (go_at_call 62; refine (lineOf_any s hs _ (henv.below hb0)).mono ?_; rintro e w1 ⟨b, g, rfl, hbb, hgb, hl, hb1⟩
         have hR1 := hR0.below hb1 (by simp)
         have hB1 : Below w.heap.size w w1 := hb0.trans (hb1.mono (by simp))
         have hbb' : w.heap.size < b := by simp at hbb; omega
         clear hb1 hbb hgb)
      | (go_at_call 63; refine (opof_any b g _ _ _ hl (fun w' k => henv.below (below_grown hB1 (Nat.le_of_lt hbb') k))).mono ?_; rintro e w2 ⟨rfl, hl2, hg2⟩
         have hR2 := hR1.grown hg2 (by intro e; injection e with e; omega)
         have hB2 := below_grown hB1 (Nat.le_of_lt hbb') hg2
         rw [show opOfS (Lib.splitB ⟨#[32]⟩ 0 (Lib.countB s ⟨#[32]⟩) s, false) = (o, ls) from HO.out] at hl2 ⊢
         have hl3 := hl2.below ((Below.refl _ _).alloc (Nat.le_refl _) (.cells (opCells o).toArray 34))
         have hO3 := Blk.new w2 34 (opCells o)
         have hR3 := hR2.alloc (.cells (opCells o).toArray 34)
         have hB3 := hB2.alloc hB2.size (.cells (opCells o).toArray 34)
         have d0 : (w2.alloc (.cells (opCells o).toArray 34)).cell? ⟨w2.heap.size, 0, none⟩ = some (.int .i64 o.kind) := hO3.cell 0
         have d1 : (w2.alloc (.cells (opCells o).toArray 34)).cell? ⟨w2.heap.size, 1, none⟩ = some (.int .u64 (o.n : Int)) := hO3.cell 1
         have d2 : (w2.alloc (.cells (opCells o).toArray 34)).cell? ⟨w2.heap.size, 2, none⟩ = some (.string o.key) := hO3.cell 2
         have d3 : (w2.alloc (.cells (opCells o).toArray 34)).cell? ⟨w2.heap.size, 3, none⟩ = some (.string o.til) := hO3.cell 3
         have d4 : (w2.alloc (.cells (opCells o).toArray 34)).cell? ⟨w2.heap.size, 4, none⟩ = some (.string o.value) := hO3.cell 4
         have d5 : (w2.alloc (.cells (opCells o).toArray 34)).cell? ⟨w2.heap.size, 5, none⟩ = some (.int .i64 o.level) := hO3.cell 5
         have d6 : (w2.alloc (.cells (opCells o).toArray 34)).cell? ⟨w2.heap.size, 6, none⟩ = some (.int .u64 (o.lsn : Int)) := hO3.cell 6
         simp only []
         clear hl2 hg2)
      | (go_at_call 64; refine (ldone_any b g _ _ _ hl3).mono ?_; rintro e w3 ⟨rfl, rfl⟩; rw [show (!ls.2 && ls.1.isEmpty) = _ from HD.out])
      | (go_at_call 19; refine (mayop_o o _).mono ?_; rintro e w4 ⟨rfl, hb4⟩; rw [HM.out]
         have hO3 := hO3.below hb4 (by simp)
         have hR3 := hR3.below hb4 hR3.lt
         have hB3 := hB3.trans (hb4.mono hB3.size))
      | (refine wpList_load_row rfl 34 _ rfl w2.heap.size rfl 34 _ (0, 0) _ hO3 Tryz.underlying34 rfl infoOp ?_)
      | (refine wpList_store_row rfl 34 _ _ rfl w2.heap.size (opCells o).toArray rfl rfl 34 _ (Blk.new w2 34 (opCells opZero)) infoOp rfl (opCells_one _) ?_; rw [World.setRow_alloc_new])
      | (refine wpList_store_row rfl 34 _ _ rfl w.heap.size (opCells o).toArray rfl rfl 34 _ hR3 infoOp rfl (opCells_one _) ?_)
      | (refine wpList_store_row rfl 34 _ _ rfl w.heap.size (opCells opZero).toArray rfl rfl 34 _ hR3 infoOp rfl (opCells_one _) ?_))
  all_goals
    first
    | (refine bodyPost_ret (results_row_tmp rfl _ _ w.heap.size 34 (opCells o).toArray (0, 0) _ rfl (hR3.set (opCells o)) Tryz.underlying34 rfl infoOp) rfl ?_
       exact ⟨rfl, below_setRow hB3 (Nat.le_refl _) _⟩)
    | (refine bodyPost_ret (results_row_tmp rfl _ _ w.heap.size 34 (opCells opZero).toArray (0, 0) _ rfl (hR3.set (opCells opZero)) Tryz.underlying34 rfl infoOp) rfl ?_
       exact ⟨rfl, below_setRow hB3 (Nat.le_refl _) _⟩)
end Go.Proofs.YtgplaeopcejmoaaGreatDoor
namespace Go.Proofs.YtgplaeopcejmoaaGreatDoor
open Go.RowKit Go.Shelf

def actNames : List ByteArray := [⟨#[111, 112]⟩, ⟨#[104, 101, 97, 114]⟩, ⟨#[108, 111, 115, 101]⟩, ⟨#[100, 111, 117, 98, 108, 101]⟩, ⟨#[116, 105, 99, 107]⟩, ⟨#[102, 117, 115, 101]⟩, ⟨#[99, 114, 97, 115, 104]⟩, ⟨#[111, 112, 101, 110]⟩, ⟨#[102, 111, 108, 108, 111, 119]⟩, ⟨#[112, 114, 111, 109, 111, 116, 101]⟩, ⟨#[114, 101, 119, 105, 110, 100]⟩, ⟨#[115, 112, 111, 105, 108]⟩]
def ofActL : List (Int × Int) := [(1, 9), (2, 4), (3, 4), (4, 4), (5, 1), (6, 5), (7, 17), (8, 21), (9, 3), (10, 1), (11, 3), (12, 5)]
def ofActV (k : Int) : Value := .tuple #[.int .i64 ((getI ofActL k).getD 0), .bool (getI ofActL k).isSome]
theorem getI_none {k : Int} (h : k < 1 ∨ 12 < k) : getI ofActL k = none := by
  simp only [ofActL, getI]
  repeat (rw [if_neg (by omega)])

set_option maxRecDepth 100000 in
theorem ofAct_any (k : Int) (w : World) : Calls Tryz.prog 57 #[.int .i64 k] w fun e w' => e = .returned (ofActV k) ∧ w = w' := by
  by_cases h : k < 1 ∨ 12 < k
  · have hv : ofActV k = .tuple #[.int .i64 0, .bool false] := by unfold ofActV; rw [getI_none h]; rfl
    rw [hv]
    clear hv
    have e1 : (k == 1) = false := by simp; omega
    have e2 : (k == 2) = false := by simp; omega
    have e3 : (k == 3) = false := by simp; omega
    have e4 : (k == 4) = false := by simp; omega
    have e5 : (k == 5) = false := by simp; omega
    have e6 : (k == 6) = false := by simp; omega
    have e7 : (k == 7) = false := by simp; omega
    have e8 : (k == 8) = false := by simp; omega
    have e9 : (k == 9) = false := by simp; omega
    have e10 : (k == 10) = false := by simp; omega
    have e11 : (k == 11) = false := by simp; omega
    have e12 : (k == 12) = false := by simp; omega
    clear h
    go_enter Tryz.func57, Tryz.ntmps57
    go_wp2
    go_ret2
    exact ⟨rfl, rfl⟩
  · have hk : k = 1 ∨ k = 2 ∨ k = 3 ∨ k = 4 ∨ k = 5 ∨ k = 6 ∨ k = 7 ∨ k = 8 ∨ k = 9 ∨ k = 10 ∨ k = 11 ∨ k = 12 := by omega
    rcases hk with rfl | rfl | rfl | rfl | rfl | rfl | rfl | rfl | rfl | rfl | rfl | rfl
    all_goals
      go_enter Tryz.func57, Tryz.ntmps57
      go_wp2
      go_ret2
      exact ⟨rfl, rfl⟩

set_option maxRecDepth 100000 in
theorem actNames_any (w : World) : Calls Tryz.prog 58 #[] w fun e w' => e = .returned (.slice (some ⟨w.heap.size, 0, none⟩) 12 12) ∧ w' = w.alloc (.cells (actNames.map Value.string).toArray 9) := by
  go_enter Tryz.func58, Tryz.ntmps58
  go_wp2
  go_ret
  exact ⟨rfl, rfl⟩
end Go.Proofs.YtgplaeopcejmoaaGreatDoor
