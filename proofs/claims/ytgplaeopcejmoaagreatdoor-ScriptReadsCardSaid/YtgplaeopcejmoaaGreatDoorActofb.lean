/- The walk of ActOf. -/
import Derived.Test.YtgplaeopcejmoaaGreatDoorActofa
import Derived.Deep.LoopGhost
namespace Go.Proofs.YtgplaeopcejmoaaGreatDoor
open Go.RowKit Go.Shelf

/-- with the names' cell -/
structure Gacn (w W : World) (b g : Nat) (s : LS) (rb ab : Nat) (C : List Value) (m : Int) (nb : Nat) : Prop where
  gac : Gac w W b g s rb ab C
  nam : Blk W nb 3 [.int .i64 m]
  nbB : w.heap.size ≤ nb
theorem Gacn.next {w W W' : World} {b g : Nat} {s : LS} {rb ab : Nat} {C : List Value} {m : Int} {nb : Nat} (h : Gacn w W b g s rb ab C m nb) (hb : Below W.heap.size W W') : Gacn w W' b g s rb ab C m nb :=
  ⟨h.gac.next hb, h.nam.below hb h.nam.lt, h.nbB⟩
theorem Gacn.took {w W W' : World} {b g : Nat} {s : LS} {rb ab : Nat} {C : List Value} {m : Int} {nb : Nat} (h : Gacn w W b g s rb ab C m nb) {s' : LS} (hl : LineAt W' b g s'.1 s'.2) (hg : W.grownBy W' (some b)) : Gacn w W' b g s' rb ab C m nb := by
  obtain ⟨⟨L, hL⟩, _⟩ := h.gac.line.blk
  have n1 := blk_ne h.nam hL (by decide)
  exact ⟨h.gac.took hl hg, h.nam.grown hg (fun e => by injection e with e; exact n1 e), h.nbB⟩
theorem Gacn.field {w W : World} {b g : Nat} {s : LS} {rb ab : Nat} {C : List Value} {m : Int} {nb : Nat} (h : Gacn w W b g s rb ab C m nb) (j : Nat) (v : Value) (C' : List Value) (hj : j < C.length) (hC : C.set j v = C') : Gacn w (W.setCell ⟨ab, j, none⟩ v) b g s rb ab C' m nb :=
  ⟨h.gac.field j v C' hj hC, h.nam.setOther (blk_ne h.nam h.gac.box (by decide)) _ _, h.nbB⟩
theorem Gacn.fields {w W : World} {b g : Nat} {s : LS} {rb ab : Nat} {C : List Value} {m : Int} {nb : Nat} (h : Gacn w W b g s rb ab C m nb) (j : Nat) (vs : List Value) (C' : List Value) (hj : j + vs.length ≤ C.length) (hC : setL C j vs = C') : Gacn w (W.setCells ab j vs) b g s rb ab C' m nb := by
  have n1 := blk_ne h.nam h.gac.box (by decide)
  exact ⟨h.gac.fields j vs C' hj hC, h.nam.grown (grown_setCells ab vs W j) (fun e => by injection e with e; exact n1 e), h.nbB⟩
theorem Gacn.turn {w W W' : World} {b g : Nat} {s : LS} {rb ab : Nat} {C : List Value} {m : Int} {nb : Nat} (h : Gacn w W b g s rb ab C m nb) {row : Option Nat} (hg : W.grownBy W' row) (h0 : ∀ i, row = some i → w.heap.size ≤ i) (h1 : some b ≠ row) (h2 : some g ≠ row) (h3 : some rb ≠ row) (h4 : some ab ≠ row) (h5 : some nb ≠ row) : Gacn w W' b g s rb ab C m nb :=
  ⟨h.gac.turn hg h0 h1 h2 h3 h4, h.nam.grown hg h5, h.nbB⟩
theorem idxFrom_range (x : ByteArray) : ∀ (l : List ByteArray) (k : Nat), -1 ≤ Lib.idxFromS l x k ∧ Lib.idxFromS l x k < (k : Int) + l.length
  | [], k => by unfold Lib.idxFromS; constructor <;> simp <;> omega
  | y :: r, k => by
    have ih := idxFrom_range x r (k + 1)
    unfold Lib.idxFromS
    split
    · constructor <;> simp <;> omega
    · constructor
      · exact ih.1
      · have := ih.2
        simp only [List.length_cons]; omega
theorem opof_x (b g : Nat) (s : LS) (w : World) (hl : LineAt w b g s.1 s.2) (hbe : ∀ w', w.grownBy w' (some b) → Env w') :
    Calls Tryz.prog 63 #[.pointer (some ⟨b, 0, none⟩)] w fun e w' => ∃ o d, opOfS s = (o, d) ∧ e = .returned (opV o) ∧ LineAt w' b g d.1 d.2 ∧ w.grownBy w' (some b) :=
  (opof_any b g s.1 s.2 w hl hbe).mono fun _ _ ⟨h1, h2, h3⟩ => ⟨_, _, rfl, h1, h2, h3⟩
theorem actNames_get (j : Nat) (h : j < actNames.length) : (actNames.map Value.string)[j]? = some (.string (actNames.getD j ByteArray.empty)) := by
  rw [List.getElem?_map, List.getElem?_eq_getElem h, List.getD_eq_getElem?_getD, List.getElem?_eq_getElem h]
  rfl
/-- how ActOf ends -/
def ActRes (w w' : World) (o : Option Ar) (e : Ending) : Prop :=
  ∃ pa pc, e = .returned (.tuple #[.agg (actCells (o.getD arZero) (.slice pa (o.getD arZero).picks.length pc)).toArray, .int .i64 (if o.isSome then 0 else 4)]) ∧
    ((o.getD arZero).picks ≠ [] → ∃ g, pa = some ⟨g, 0, none⟩ ∧ w.heap.size ≤ g ∧ ∀ j x, (o.getD arZero).picks[j]? = some x → w'.cell? ⟨g, j, none⟩ = some (.int .i64 x))
theorem actRes_none {w w' : World} : ActRes w w' none (.returned (.tuple #[.agg (actCells arZero (.slice none 0 0)).toArray, .int .i64 4])) := ⟨none, 0, rfl, fun h => absurd rfl h⟩
theorem actRes_some {w w' : World} {a : Ar} {pv : Value} {base : Nat} (ho : OwnI w' base pv a.picks) (hb : w.heap.size ≤ base) : ActRes w w' (some a) (.returned (.tuple #[.agg (actCells a pv).toArray, .int .i64 0])) := by
  obtain ⟨A, c, rfl⟩ := ho.any
  refine ⟨A, c, rfl, fun hne => ?_⟩
  obtain ⟨g, cap, hv, hg, _⟩ := ho.form hne
  cases hv
  exact ⟨g, rfl, by omega, fun j x hx => by have := ho.cells rfl j x hx; rw [Nat.zero_add] at this; exact this⟩
theorem takePicks_stop {ws : List ByteArray} {wr : Bool} {acc : List Int} (h : wr = true ∨ ws = [] ∨ 512 < acc.length) : takePicks ws wr acc = (acc, (ws, wr)) := by
  cases ws with
  | nil => rfl
  | cons y r =>
    rcases h with rfl | h | h
    · rfl
    · cases h
    · have : decide (acc.length ≤ 512) = false := by simp; omega
      simp [takePicks, this]
theorem takePicks_go (y : ByteArray) (ws : List ByteArray) {acc : List Int} (h : acc.length ≤ 512) : takePicks (y :: ws) false acc = takePicks ws (intV y).2 (acc ++ [(intV y).1]) := by
  simp [takePicks, h]
theorem actCells_one (a : Ar) (A : Option Addr) (n c : Nat) : (actCells a (.slice A n c)).toArray.all (·.oneCell') = true := by simp [actCells, Value.oneCell']
theorem hb9_1 : hasF 9 1 = true := by decide
theorem hb9_2 : hasF 9 2 = false := by decide
theorem hb9_4 : hasF 9 4 = false := by decide
theorem hb9_8 : hasF 9 8 = true := by decide
theorem hb9_16 : hasF 9 16 = false := by decide
theorem hb4_1 : hasF 4 1 = false := by decide
theorem hb4_2 : hasF 4 2 = false := by decide
theorem hb4_4 : hasF 4 4 = true := by decide
theorem hb4_8 : hasF 4 8 = false := by decide
theorem hb4_16 : hasF 4 16 = false := by decide
theorem hb1_1 : hasF 1 1 = true := by decide
theorem hb1_2 : hasF 1 2 = false := by decide
theorem hb1_4 : hasF 1 4 = false := by decide
theorem hb1_8 : hasF 1 8 = false := by decide
theorem hb1_16 : hasF 1 16 = false := by decide
theorem hb5_1 : hasF 5 1 = true := by decide
theorem hb5_2 : hasF 5 2 = false := by decide
theorem hb5_4 : hasF 5 4 = true := by decide
theorem hb5_8 : hasF 5 8 = false := by decide
theorem hb5_16 : hasF 5 16 = false := by decide
theorem hb17_1 : hasF 17 1 = true := by decide
theorem hb17_2 : hasF 17 2 = false := by decide
theorem hb17_4 : hasF 17 4 = false := by decide
theorem hb17_8 : hasF 17 8 = false := by decide
theorem hb17_16 : hasF 17 16 = true := by decide
theorem hb21_1 : hasF 21 1 = true := by decide
theorem hb21_2 : hasF 21 2 = false := by decide
theorem hb21_4 : hasF 21 4 = true := by decide
theorem hb21_8 : hasF 21 8 = false := by decide
theorem hb21_16 : hasF 21 16 = true := by decide
theorem hb3_1 : hasF 3 1 = true := by decide
theorem hb3_2 : hasF 3 2 = true := by decide
theorem hb3_4 : hasF 3 4 = false := by decide
theorem hb3_8 : hasF 3 8 = false := by decide
theorem hb3_16 : hasF 3 16 = false := by decide
theorem hb0_1 : hasF 0 1 = false := by decide
theorem hb0_2 : hasF 0 2 = false := by decide
theorem hb0_4 : hasF 0 4 = false := by decide
theorem hb0_8 : hasF 0 8 = false := by decide
theorem hb0_16 : hasF 0 16 = false := by decide
end Go.Proofs.YtgplaeopcejmoaaGreatDoor
