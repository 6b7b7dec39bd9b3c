/- The walk of opOf: what a line's words are as an operation. -/
import Derived.Test.YtgplaeopcejmoaaGreatDoorOptxt
namespace Go.Proofs.YtgplaeopcejmoaaGreatDoor
open Go.RowKit Go.Shelf

attribute [local go_sem] Oper.semAt_some

theorem exit0_wp {P : Program} {Q0 : Exit → Act → World → Prop} {a : Act} {w : World} (h : Q0 .normal a w) : (Code.exit 0).wp P (Exit.inBlock 0 Q0) a w := by
  go_wp2
  exact h

theorem wp_names0 {g : Operand} {ps : Array Tmp} {assign body : Code} {Q0 : Exit → Act → World → Prop} {a : Act} {w : World} (hg : a.eval g = .func (.func 90) #[] #[]) (hps : ps.size = 2)
    (I : List (Fin 12) → World → Prop) (Fi : List (Fin 12) → World → Prop) (hI : OwnFrom w.heap.size I) (hFi : OwnFrom w.heap.size Fi) (h0 : I [] w) (a₁ : Fin 12 → Act)
    (hassign : ∀ (l : Nat) (x : Fin 12) (W : World) (K : Act → World → Prop), K (a₁ x) W →
      assign.wpIn (Fence.wide.inRound l) 7 Tryz.prog (Exit.then K (fun _ _ _ => False)) { tmps := (ps.zip (encK x)).foldl (fun t (p, v) => t.setIfInBounds p v) a.tmps, defers := [] } W)
    (hbody : ∀ (l : Nat) (pre : List (Fin 12)) (x : Fin 12) (W : World), I pre W → body.wpIn (Fence.wide.inRound l) 7 Tryz.prog (ownPostK (Below w.heap.size) I (fun c pre W => c = .exit 0 ∧ Fi pre W) (pre ++ [x]) W) (a₁ x) W)
    (Fz : World → Prop) (hall : ∀ W, I allK W → Fz W) (hpart : ∀ pre W, pre <+: allK → Fi pre W → Fz W)
    (hend : ∀ D W, w.heap.size ≤ D → Fz W → W.heap[D]? = some (.deferred (some [])) → Q0 .normal { a with defers := { target := .collected D, args := #[] } :: a.defers } W) :
    (Code.rangeFunc g ps assign body).wp Tryz.prog (Exit.inBlock 0 Q0) a w := by
  refine wpIn_wide.1 (wpIn_rangeFunc_ownF (n := 9) rfl (by omega) (gf := 90) (lb := #[]) hg trivial (enters_of Tryz.func90 (by kernel_rfl) rfl) (names_stops 8 w.heap.size (by omega) w) belowK_t (belowK_b (Nat.le_refl _)) (Below.refl _ _) (fun _ => by rw [hps]; rfl)
      I (fun c pre W => c = .exit 0 ∧ Fi pre W) hI ?_ h0 a₁ hassign (fun l pre x W hi _ => hbody l pre x W hi) ?_ ?_)
  · intro c s A B row hs hg hr
    exact ⟨hs.1, hFi s A B row hs.2 hg hr⟩
  · rintro D ys W hD rfl hi hk
    exact hend D W hD (hall W hi) hk
  · rintro D c pre W hD hpre ⟨rfl, hf⟩ hk
    exact wpIn_wide.2 (exit0_wp (hend D W hD (hpart pre W hpre hf) hk))

theorem has_any (p : Addr) (m f : Int) (w : World) (hc : w.cell? p = some (.int .i64 m)) :
    Calls Tryz.prog 95 #[.int .i64 f, .pointer (some p)] w fun e w' => e = .returned (.bool (hasF m f)) ∧ w = w' := by
  go_enter Tryz.func95, Tryz.ntmps95
  go_wp2
  go_ret
  exact ⟨rfl, rfl⟩
theorem has_at {p : Addr} {m f : Int} {b : Bool} (hb : hasF m f = b) {w : World} (hc : w.cell? p = some (.int .i64 m)) :
    Calls Tryz.prog 95 #[.int .i64 f, .pointer (some p)] w fun e w' => e = .returned (.bool b) ∧ w = w' := hb ▸ has_any p m f w hc

/-- a line's state: its words, and is it wrong -/
abbrev LS := List ByteArray × Bool
def hd (s : LS) : ByteArray := s.1.headD ⟨#[]⟩
def adv (s : LS) (bad : Bool) : LS := (s.1.tail, (s.2 || s.1.isEmpty) || bad)
def kindOf (x : ByteArray) : Int := match allK.find? (fun y => (nmAt y).toList == x.toList) with
  | some y => 1 + (y.val : Int)
  | none => 0
def opZero : Opr := ⟨0, 0, ⟨#[]⟩, ⟨#[]⟩, ⟨#[]⟩, 0, 0⟩
def st1 (m : Int) (p : Opr × LS) : Opr × LS := if hasF m 1 then ({ p.1 with n := (natV (hd p.2)).1 }, adv p.2 (natV (hd p.2)).2) else p
def st2 (m : Int) (p : Opr × LS) : Opr × LS := if hasF m 2 then ({ p.1 with lsn := (natV (hd p.2)).1 }, adv p.2 (natV (hd p.2)).2) else p
def st4 (m : Int) (p : Opr × LS) : Opr × LS := if hasF m 4 then ({ p.1 with key := (textV (hd p.2)).1 }, adv p.2 (textV (hd p.2)).2) else p
def st8 (m : Int) (p : Opr × LS) : Opr × LS := if hasF m 8 then ({ p.1 with til := (textV (hd p.2)).1 }, adv p.2 (textV (hd p.2)).2) else p
def st16 (m : Int) (p : Opr × LS) : Opr × LS := if hasF m 16 then ({ p.1 with value := (textV (hd p.2)).1 }, adv p.2 (textV (hd p.2)).2) else p
def st32 (m : Int) (p : Opr × LS) : Opr × LS := if hasF m 32 then ({ p.1 with level := (intV (hd p.2)).1 }, adv p.2 (intV (hd p.2)).2) else p
def opOfM (m : Int) (p : Opr × LS) : Opr × LS := st32 m (st16 m (st8 m (st4 m (st2 m (st1 m p)))))
/-- an operation out of a line -/
def opOfS (s : LS) : Opr × LS := opOfM ((getI namedL (kindOf (hd s))).getD 0) ({ opZero with kind := kindOf (hd s) }, adv s false)

theorem grownBy_row {a b : World} (row : Option Nat) (h : a.grownBy b none) : a.grownBy b row := ⟨h.os, h.tape, h.output, h.size, fun j hj _ => h.block j hj (by simp)⟩
theorem grownBy_turn {a b c : World} {row r : Option Nat} (h : a.grownBy b row) (k : b.grownBy c r) (hr : ∀ i, r = some i → a.heap.size ≤ i) : a.grownBy c row := by
  cases r with
  | none => exact grownBy_trans h (grownBy_row row k)
  | some i => exact grownBy_new h k (hr i rfl)

/-- what stands while an operation is gathered out of a line -/
structure Gat (w W : World) (b g : Nat) (s : LS) (rb ob : Nat) (o : Opr) : Prop where
  grown : w.grownBy W (some b)
  line : LineAt W b g s.1 s.2
  res : Blk W rb 34 (opCells opZero)
  box : Blk W ob 34 (opCells o)
  rbB : w.heap.size ≤ rb
  obB : w.heap.size ≤ ob
  ne : rb ≠ ob
  bB : b < w.heap.size
  gB : g < w.heap.size
theorem Gat.turn {w W W' : World} {b g : Nat} {s : LS} {rb ob : Nat} {o : Opr} (h : Gat w W b g s rb ob o) {r : Option Nat} (k : W.grownBy W' r) (hr : ∀ i, r = some i → w.heap.size ≤ i) (h1 : some rb ≠ r) (h2 : some ob ≠ r) : Gat w W' b g s rb ob o :=
  ⟨grownBy_turn h.grown k hr, h.line.grown k (fun e => by have := hr b e.symm; have := h.bB; omega) (fun e => by have := hr g e.symm; have := h.gB; omega), h.res.grown k h1, h.box.grown k h2, h.rbB, h.obB, h.ne, h.bB, h.gB⟩
theorem Gat.next {w W W' : World} {b g : Nat} {s : LS} {rb ob : Nat} {o : Opr} (h : Gat w W b g s rb ob o) (hb : Below W.heap.size W W') : Gat w W' b g s rb ob o :=
  h.turn (r := none) ⟨hb.os, hb.tape, hb.output, hb.size, fun j hj _ => hb.block j hj⟩ (by simp) (by simp) (by simp)
theorem Gat.alloc {w W : World} {b g : Nat} {s : LS} {rb ob : Nat} {o : Opr} (h : Gat w W b g s rb ob o) (x : Obj) : Gat w (W.alloc x) b g s rb ob o := h.next ((Below.refl _ _).alloc (Nat.le_refl _) _)
/-- a field is set -/
theorem Gat.field {w W : World} {b g : Nat} {s : LS} {rb ob : Nat} {o : Opr} (h : Gat w W b g s rb ob o) (j : Nat) (v : Value) (o' : Opr) (hj : j < 7) (ho : (opCells o).set j v = opCells o') : Gat w (W.setCell ⟨ob, j, none⟩ v) b g s rb ob o' := by
  have h1 := h.ne; have h2 := h.obB; have h3 := h.bB; have h4 := h.gB
  refine ⟨grownBy_new h.grown (grown_setCell _ _ _ _) h.obB, h.line.grown (grown_setCell _ _ _ _) (fun e => by cases e; omega) (fun e => by cases e; omega), h.res.setOther h1 _ _, ?_, h.rbB, h.obB, h.ne, h.bB, h.gB⟩
  rw [← ho]
  exact h.box.setCell j v (by simpa [opCells] using hj)
/-- a word is taken -/
theorem Gat.took {w W W' : World} {b g : Nat} {s : LS} {rb ob : Nat} {o : Opr} (h : Gat w W b g s rb ob o) {s' : LS} (hl : LineAt W' b g s'.1 s'.2) (hg : W.grownBy W' (some b)) : Gat w W' b g s' rb ob o := by
  have h2 := h.obB; have h3 := h.bB; have h4 := h.rbB
  exact ⟨grownBy_trans h.grown hg, hl, h.res.grown hg (fun e => by cases e; omega), h.box.grown hg (fun e => by cases e; omega), h.rbB, h.obB, h.ne, h.bB, h.gB⟩
theorem ownFrom_gat {β : Type} {B : Nat} {w : World} {b g : Nat} {s : LS} {rb ob : Nat} {o : Opr} (hB : w.heap.size ≤ B) : OwnFrom B (fun (_ : β) W => Gat w W b g s rb ob o) := fun _ A _ row hs hg hr =>
  hs.turn hg (fun i e => Nat.le_trans hB (hr i e).1)
    (fun e => by obtain ⟨_, o', ho, hc⟩ := hr rb e.symm; rw [show A.heap[rb]? = _ from hs.res] at ho; cases ho; cases hc)
    (fun e => by obtain ⟨_, o', ho, hc⟩ := hr ob e.symm; rw [show A.heap[ob]? = _ from hs.box] at ho; cases ho; cases hc)
/-- with the names' cell, and the block for deferred calls -/
structure Gan (w W : World) (b g : Nat) (s : LS) (rb ob : Nat) (o : Opr) (m : Int) (nb D : Nat) : Prop where
  gat : Gat w W b g s rb ob o
  nam : Blk W nb 3 [.int .i64 m]
  nbB : w.heap.size ≤ nb
  dfr : W.heap[D]? = some (.deferred (some []))
  dB : w.heap.size ≤ D
theorem Gan.field {w W : World} {b g : Nat} {s : LS} {rb ob : Nat} {o : Opr} {m : Int} {nb D : Nat} (h : Gan w W b g s rb ob o m nb D) (j : Nat) (v : Value) (o' : Opr) (hj : j < 7) (ho : (opCells o).set j v = opCells o') : Gan w (W.setCell ⟨ob, j, none⟩ v) b g s rb ob o' m nb D := by
  have n1 : nb ≠ ob := by
    intro e
    have h1 := h.nam
    rw [e] at h1
    have := (show W.heap[ob]? = _ from h.gat.box).symm.trans h1
    simp [opCells] at this
  have n2 : D ≠ ob := by
    intro e
    have h1 := h.dfr
    rw [e] at h1
    have := (show W.heap[ob]? = _ from h.gat.box).symm.trans h1
    simp at this
  exact ⟨h.gat.field j v o' hj ho, h.nam.setOther n1 _ _, h.nbB, (Below.heap_setCell _ _ _ _ n2).trans h.dfr, h.dB⟩
theorem Gan.took {w W W' : World} {b g : Nat} {s : LS} {rb ob : Nat} {o : Opr} {m : Int} {nb D : Nat} (h : Gan w W b g s rb ob o m nb D) {s' : LS} (hl : LineAt W' b g s'.1 s'.2) (hg : W.grownBy W' (some b)) : Gan w W' b g s' rb ob o m nb D := by
  have h3 := h.gat.bB; have h4 := h.nbB; have h5 := h.dB
  exact ⟨h.gat.took hl hg, h.nam.grown hg (fun e => by cases e; omega), h.nbB, (hg.block D (Array.getElem?_eq_some_iff.1 h.dfr).1 (fun e => by cases e; omega)).trans h.dfr, h.dB⟩

theorem kindOf_none {x : ByteArray} (h : ∀ y ∈ allK, ((nmAt y).toList == x.toList) = false) : kindOf x = 0 := by
  unfold kindOf
  rw [List.find?_eq_none.2 (fun y hy => by rw [h y hy]; simp)]
theorem kindOf_some {x : ByteArray} {y : Fin 12} {pre : List (Fin 12)} (hp : (pre ++ [y]) <+: allK) (h : ∀ z ∈ pre, ((nmAt z).toList == x.toList) = false) (hy : ((nmAt y).toList == x.toList) = true) : kindOf x = 1 + (y.val : Int) := by
  unfold kindOf
  obtain ⟨r, hr⟩ := hp
  have : allK.find? (fun y => (nmAt y).toList == x.toList) = some y := by
    rw [← hr, List.find?_append, List.find?_append, List.find?_eq_none.2 (fun z hz => by rw [h z hz]; simp)]
    simp [hy]
  rw [this]
end Go.Proofs.YtgplaeopcejmoaaGreatDoor
