/- A map literal with int keys; the walk of named. -/
import Derived.Test.YtgplaeopcejmoaaGreatDoorUnword
import Derived.Maps.Own
import Derived.Maps.OwnOps
import Derived.RangeFuncRecord
namespace Go.Proofs.YtgplaeopcejmoaaGreatDoor
open Go.RowKit

def entsL : Nat → List (Int × Int) → List MapEntry
  | _, [] => []
  | m, p :: l => { key := .int .i64 p.1, val := .int .i64 p.2, born := m } :: entsL (m + 1) l
theorem entsL_snoc (k v : Int) : ∀ (l : List (Int × Int)) (m : Nat), entsL m (l ++ [(k, v)]) = entsL m l ++ [{ key := .int .i64 k, val := .int .i64 v, born := m + l.length }]
  | [], m => rfl
  | p :: l, m => by
    rw [List.cons_append, entsL, entsL_snoc k v l (m + 1), entsL, List.cons_append, List.length_cons, show m + 1 + l.length = m + (l.length + 1) by omega]
/-- block g is a map of ints to ints, entered in this order -/
def MapI (W : World) (g : Nat) (l : List (Int × Int)) : Prop := W.heap[g]? = some (.map (entsL 0 l).toArray l.length)
theorem MapI.alloc {W : World} {g : Nat} {l : List (Int × Int)} (h : MapI W g l) (o : Obj) : MapI (W.alloc o) g l := by
  unfold MapI at *
  exact (Below.heap_alloc W o g (Array.getElem?_eq_some_iff.1 h).1).trans h
def findI (k : Int) : List (Int × Int) → Nat → Option (Nat × Int)
  | [], _ => none
  | p :: l, i => if p.1 = k then some (i, p.2) else findI k l (i + 1)
def getI : List (Int × Int) → Int → Option Int
  | [], _ => none
  | p :: l, k => if p.1 = k then some p.2 else getI l k
theorem getI_find (k : Int) : ∀ (l : List (Int × Int)) (i : Nat), (findI k l i).map (·.2) = getI l k
  | [], _ => rfl
  | p :: l, i => by
    unfold findI getI
    split
    · rfl
    · exact getI_find k l (i + 1)
theorem findNow_go (k : Int) : ∀ (l : List (Int × Int)) (m i : Nat), Instr.findNow (.int .i64) (.int .i64 k) (entsL m l) i = some ((findI k l i).map fun r => (r.1, .int .i64 r.2))
  | [], _, _ => rfl
  | p :: l, m, i => by
    unfold findI
    simp only [entsL, Instr.findNow, Instr.sameNow, if_true]
    by_cases h : p.1 = k
    · subst h; simp
    · have h' : (k == p.1) = false := by simp; omega
      rw [h', if_neg h]
      exact findNow_go k l (m + 1) (i + 1)

theorem getObj_i {P : Program} {W : World} {g : Nat} {l : List (Int × Int)} (h : MapI W g l) : (getObj g).run P W = .ok (.map (entsL 0 l).toArray l.length) W := by
  unfold MapI at h; simp [getObj, Sem.run, h]
theorem setObj_i {P : Program} {W : World} {g : Nat} {l : List (Int × Int)} (h : MapI W g l) (o : Obj) : (setObj g o).run P W = .ok () (W.putObj g o) := by
  unfold MapI at h; simp [setObj, Sem.run, h, World.putObj]
section
variable {P : Program} {t kt et : TypeId}
theorem run_findKey_i (hk : P.underlying kt = some (.int .i64)) (W : World) (k : Int) (l : List (Int × Int)) :
    (Instr.findKey kt (.int .i64 k) (entsL 0 l)).run P W = .ok ((findI k l 0).map fun r => (r.1, .int .i64 r.2)) W := by
  unfold Instr.findKey
  simp [run_underlying hk, findNow_go]
theorem run_checkKey_i (hk : P.underlying kt = some (.int .i64)) (W : World) (b : Bool) (k : Int) : (Instr.checkKey b 10000 kt (.int .i64 k)).run P W = .ok () W := by
  unfold Instr.checkKey
  simp [run_underlying hk]
theorem run_insert_i (ht : P.underlying t = some (.map kt et)) (hk : P.underlying kt = some (.int .i64)) {W : World} {g : Nat} {l : List (Int × Int)} (h : MapI W g l) (k v : Int) (hn : findI k l 0 = none) :
    (Instr.mapUpdate t (.map (some g)) (.int .i64 k) (.int .i64 v)).run P W = .ok () (W.putObj g (.map (entsL 0 (l ++ [(k, v)])).toArray (l.length + 1))) := by
  unfold Instr.mapUpdate
  simp only [Sem.run_bind, run_underlying ht, Result.andThen_ok, getObj_i h, run_checkKey_i hk, run_findKey_i hk, hn, Option.map_none, setObj_i h]
  rw [entsL_snoc]
  simp [World.putObj]
theorem MapI.put {W : World} {g : Nat} {l : List (Int × Int)} (h : MapI W g l) (k v : Int) : MapI (W.putObj g (.map (entsL 0 (l ++ [(k, v)])).toArray (l.length + 1))) g (l ++ [(k, v)]) := by
  unfold MapI at *
  have hlt := (Array.getElem?_eq_some_iff.1 h).1
  simp [World.putObj, hlt]
theorem run_lookup_i (ht : P.underlying t = some (.map kt et)) (hk : P.underlying kt = some (.int .i64)) {W : World} {g : Nat} {l : List (Int × Int)} (h : MapI W g l) (k : Int) (hz : (zeroValue et).run P W = .ok (.int .i64 0) W) :
    (Instr.lookup t (.map (some g)) (.int .i64 k) true).run P W = .ok (.tuple #[.int .i64 ((getI l k).getD 0), .bool (getI l k).isSome]) W := by
  unfold Instr.lookup
  simp only [Sem.run_bind, run_underlying ht, Result.andThen_ok, getObj_i h, run_checkKey_i hk, Sem.run_pure, run_findKey_i hk]
  rw [← getI_find k l 0]
  cases hf : findI k l 0 with
  | none => simp [hz]
  | some r => simp
theorem below_putObj {B g : Nat} {w W : World} (h : Below B w W) (hg : B ≤ g) (o : Obj) : Below B w (W.putObj g o) :=
  ⟨h.os, h.tape, h.output, by simpa [World.putObj] using h.size, fun j hj => (World.putObj_heap_other (by omega)).trans (h.block j hj)⟩
theorem wpList_insert_i {w w0 : World} {B : Nat} {ops : Array Oper} {rest : List Oper} {o : Oper} {a : Act} {Q : Exit → Act → World → Prop} (hgd : o.guard = none) (m x y : Operand)
    (ho : o.op = .insert t m x y) (ht : P.underlying t = some (.map kt et)) (hk : P.underlying kt = some (.int .i64)) {g : Nat} {l : List (Int × Int)} (h : MapI w g l) (hb : Below B w0 w) (hg : B ≤ g) (hm : a.eval m = .map (some g)) (k v : Int) (hx : a.eval x = .int .i64 k) (hy : a.eval y = .int .i64 v) (hn : findI k l 0 = none)
    (hK : ∀ w', MapI w' g (l ++ [(k, v)]) → Below B w0 w' → wpList P ops Q rest (a.put o.dst undef) w') : wpList P ops Q (o :: rest) a w := by
  refine wpList_plain hgd fun K hK' => ?_
  have hr := run_insert_i ht hk h k v hn
  unfold Oper.wp execOp
  simp only [ho, Sem.run_bind, hm, hx, hy, hr, Result.andThen_ok, Sem.run_pure]
  exact hK' _ _ (hK _ (h.put k v) (below_putObj hb hg _))
end

def namedL : List (Int × Int) := [(1, 0), (2, 5), (3, 13), (4, 21), (5, 5), (6, 1), (7, 33), (8, 33), (9, 1), (10, 34), (11, 0), (12, 0)]

set_option maxRecDepth 100000 in
theorem named_any (w : World) : Calls Tryz.prog 52 #[] w fun e w' => ∃ g, e = .returned (.map (some g)) ∧ MapI w' g namedL ∧ Below w.heap.size w w' := by
  have hmm := @run_makeMap Tryz.prog
  have hm : MapI (w.alloc (.map #[] 0)) w.heap.size [] := heap_alloc_new w _
  have hb : Below w.heap.size w (w.alloc (.map #[] 0)) := (Below.refl _ _).alloc (Nat.le_refl _) _
  go_enter Tryz.func52, Tryz.ntmps52
  go_wp2_with (refine wpList_insert_i rfl _ _ _ rfl Tryz.underlying100 Tryz.underlying31 hm hb (Nat.le_refl _) rfl _ _ rfl rfl rfl ?_; clear hm hb; intro wm hm hb)
  go_ret
  exact ⟨_, rfl, hm, hb⟩
end Go.Proofs.YtgplaeopcejmoaaGreatDoor
