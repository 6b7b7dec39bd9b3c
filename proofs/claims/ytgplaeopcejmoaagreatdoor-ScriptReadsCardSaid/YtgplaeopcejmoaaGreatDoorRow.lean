/- Laws on rows of memory that are known whole: append within the room, copy, clear. Any program, any element type. -/
import Derived.WalkKit
import Derived.WalkSpells
import Derived.Laws.CopyRow
import Derived.Laws.AppendOwn
import Derived.Deep.RegionLaw
import Derived.Deep.QuietTactic
namespace Go.Proofs.YtgplaeopcejmoaaGreatDoor
open Go.RowKit

/-- block g is a row of element type e that holds the list L, none of it frozen -/
def Blk (w : World) (g : Nat) (e : TypeId) (L : List Value) : Prop := w.heap[g]? = some (.cells L.toArray e (0, 0))

section
variable {w w' : World} {g : Nat} {e : TypeId} {L : List Value}
theorem Blk.lt (h : Blk w g e L) : g < w.heap.size := (Array.getElem?_eq_some_iff.1 h).1
theorem Blk.cell (h : Blk w g e L) (j : Nat) : w.cell? ⟨g, j, none⟩ = L[j]? := by
  rw [cell_of_row w g j L.toArray e (0, 0) h]; simp
theorem Blk.frozen (h : Blk w g e L) (j : Nat) : w.frozen? ⟨g, j, none⟩ = false := by
  unfold Blk at h; simp [World.frozen?, h]
theorem Blk.set (h : Blk w g e L) (K : List Value) : Blk (w.setRow g K.toArray) g e K := setRow_heap w g _ _ e _ h
theorem Blk.drew (h : Blk w g e L) : Blk w.drew g e L := h
theorem Blk.drewN (h : Blk w g e L) (n : Nat) : Blk (w.drewN n) g e L := h
theorem Blk.alloc (h : Blk w g e L) (o : Obj) : Blk (w.alloc o) g e L := (Below.heap_alloc w o g h.lt).trans h
theorem Blk.new (w : World) (e : TypeId) (L : List Value) : Blk (w.alloc (.cells L.toArray e)) w.heap.size e L := heap_alloc_new w _
theorem Blk.grown {row : Option Nat} (h : Blk w g e L) (hb : w.grownBy w' row) (hg : some g ≠ row) : Blk w' g e L := (hb.block g h.lt hg).trans h
theorem Blk.below {B : Nat} (h : Blk w g e L) (hb : Below B w w') (hg : g < B) : Blk w' g e L := (hb.block g hg).trans h
theorem Blk.other (h : Blk w g e L) {k : Nat} (hk : g ≠ k) (cs : Array Value) : Blk (w.setRow k cs) g e L := (setRow_other w k g cs hk).trans h
end

theorem grown_undrew {W W' : World} {r : Option Nat} (h : W.drew.grownBy W' r) : W.grownBy W' r := ⟨h.os, h.tape, h.output, h.size, h.block⟩
theorem below_undrew {W W' : World} {B : Nat} (h : Below B W.drew W') : Below B W W' := ⟨h.os, h.tape, h.output, h.size, h.block⟩
theorem below_undrewN {W W' : World} {B n : Nat} (h : Below B (W.drewN n) W') : Below B W W' := ⟨h.os, h.tape, h.output, h.size, h.block⟩
theorem grownBy_setRow (w : World) (g : Nat) (cs : Array Value) : w.grownBy (w.setRow g cs) (some g) :=
  ⟨rfl, rfl, rfl, by simp [World.setRow], fun k _ hk => setRow_other w g k cs (fun e => hk (by rw [e]))⟩
theorem grownBy_drew (w : World) (row : Option Nat) : w.grownBy w.drew row := ⟨rfl, rfl, rfl, Nat.le_refl _, fun _ _ _ => rfl⟩
theorem grownBy_drewN (w : World) (n : Nat) (row : Option Nat) : w.grownBy (w.drewN n) row := ⟨rfl, rfl, rfl, Nat.le_refl _, fun _ _ _ => rfl⟩
theorem grownBy_trans {a b c : World} {row : Option Nat} (h : a.grownBy b row) (k : b.grownBy c row) : a.grownBy c row :=
  ⟨k.os.trans h.os, k.tape.trans h.tape, k.output.trans h.output, Nat.le_trans h.size k.size, fun j hj hr => (k.block j (Nat.lt_of_lt_of_le hj h.size) hr).trans (h.block j hj hr)⟩
/-- a block that is not there yet may be written -/
theorem grownBy_new {a b c : World} {row : Option Nat} {g : Nat} (h : a.grownBy b row) (k : b.grownBy c (some g)) (hg : a.heap.size ≤ g) : a.grownBy c row :=
  ⟨k.os.trans h.os, k.tape.trans h.tape, k.output.trans h.output, Nat.le_trans h.size k.size, fun j hj hr => (k.block j (Nat.lt_of_lt_of_le hj h.size) (fun e => by cases e; omega)).trans (h.block j hj hr)⟩
theorem grownBy_of_below {a b : World} {B : Nat} (row : Option Nat) (h : Below B a b) (hB : a.heap.size ≤ B) : a.grownBy b row :=
  ⟨h.os, h.tape, h.output, h.size, fun j hj _ => h.block j (by omega)⟩

section
variable {P : Program}

/-- any builtin call whose run is known, in a plain region: two operands -/
theorem wpList_two {w : World} {ops : Array Oper} {rest : List Oper} {o : Oper} {a : Act} {Q : Exit → Act → World → Prop} (hgd : o.guard = none) (b : Builtin) (d s : Operand) (ts : Array TypeId)
    (ho : o.op = .call { callee := .builtin b, args := #[d, s], argTypes := ts }) (v u : Value) (hd : a.eval d = v) (hs : a.eval s = u) {x : Value} {w' : World}
    (hr : ∀ cs, (builtin b ts o.type cs #[v, u]).run P w = .ok (.value x) w') (h : wpList P ops Q rest (a.put o.dst x) w') : wpList P ops Q (o :: rest) a w := by
  refine wpList_plain hgd fun K hK => ?_
  unfold Oper.wp execOp
  simp only [ho, resolve, invoke, Sem.run_bind, Sem.run_pure, Result.andThen_ok, List.map_toArray, List.map_cons, List.map_nil, hd, hs, hr]
  exact hK _ _ h
theorem wpList_one {w : World} {ops : Array Oper} {rest : List Oper} {o : Oper} {a : Act} {Q : Exit → Act → World → Prop} (hgd : o.guard = none) (b : Builtin) (d : Operand) (ts : Array TypeId)
    (ho : o.op = .call { callee := .builtin b, args := #[d], argTypes := ts }) (v : Value) (hd : a.eval d = v) {x : Value} {w' : World}
    (hr : ∀ cs, (builtin b ts o.type cs #[v]).run P w = .ok (.value x) w') (h : wpList P ops Q rest (a.put o.dst x) w') : wpList P ops Q (o :: rest) a w := by
  refine wpList_plain hgd fun K hK => ?_
  unfold Oper.wp execOp
  simp only [ho, resolve, invoke, Sem.run_bind, Sem.run_pure, Result.andThen_ok, List.map_toArray, List.map_cons, List.map_nil, hd, hr]
  exact hK _ _ h
/-- the same as one step of a region that draws -/
theorem step_two {w : World} {ops : Array Oper} {o : Oper} {a : Act} {K : Act → World → Prop} {Q : Exit → Act → World → Prop} {E : Prop} (hgd : o.guard = none) (b : Builtin) (d s : Operand) (ts : Array TypeId)
    (ho : o.op = .call { callee := .builtin b, args := #[d, s], argTypes := ts }) (v u : Value) (hd : a.eval d = v) (hs : a.eval s = u) {x : Value} {w' : World}
    (hr : ∀ cs, (builtin b ts o.type cs #[v, u]).run P w = .ok (.value x) w') (h : K (a.put o.dst x) w') : if Region.wanted o (yielded ops a.tmps) = true then Oper.wp P o a w K Q else E := by
  have hw : Region.wanted o (yielded ops a.tmps) = true := by simp [Region.wanted, hgd]
  rw [if_pos hw]
  unfold Oper.wp execOp
  simp only [ho, resolve, invoke, Sem.run_bind, Sem.run_pure, Result.andThen_ok, List.map_toArray, List.map_cons, List.map_nil, hd, hs, hr]
  exact h

/-- a call of a function by its contract, as one step of a region that draws -/
theorem step_call1 {w : World} {ops : Array Oper} {o : Oper} {a : Act} {K : Act → World → Prop} {Q : Exit → Act → World → Prop} {E : Prop} (hgd : o.guard = none) (f : FuncId) (x : Operand) (ts : Array TypeId)
    (ho : o.op = .call { callee := .value (.func f), args := #[x], argTypes := ts }) (hent : ∀ args w, (callFunc f args).run P w = .ok (.enter f args) w) (arg : Value) (hx : a.eval x = arg) {R : Value → World → Prop}
    (hc : Calls P f #[arg] w fun e w' => ∃ v, e = .returned v ∧ R v w') (h : ∀ v w', R v w' → K (a.put o.dst v) w') : if Region.wanted o (yielded ops a.tmps) = true then Oper.wp P o a w K Q else E := by
  have hw : Region.wanted o (yielded ops a.tmps) = true := by simp [Region.wanted, hgd]
  rw [if_pos hw]
  have hr : (execOp a.eval o).run P w = .ok (.enter f #[arg]) w := by
    unfold execOp
    have hf : a.eval (.func f) = .func (.func f) #[] #[] := rfl
    simp [ho, resolve, invoke, hx, hf, hent, Deferred.ofValue]
  unfold Oper.wp
  rw [hr, Oper.upon_enter]
  refine hc.mono fun e w' ⟨v, he, hR⟩ => ?_
  subst he
  exact h v w' hR

theorem run_append_blk (w : World) {t e : TypeId} {i : TypeInfo} {size : Nat} (ht : P.underlying t = some (.slice e)) (hi : P.info? e = some i) (hsz : i.size = size) {g : Nat} {L : List Value} (hg : Blk w g e L)
    (n cap : Nat) (a : Addr) (m c : Nat) (news : List Value) (hl : news.length = m * size) (hnews : ∀ j u, news[j]? = some u → w.cell? (a.add j) = some u) (h1 : ∀ u ∈ news, u.oneCell' = true)
    (hroom : n + m ≤ cap) (hfit : n * size + news.length ≤ L.length) (ty : TypeId) (cs : Array Bool) :
    (builtin .append #[t, t] ty cs #[.slice (some ⟨g, 0, none⟩) n cap, .slice (some a) m c]).run P w =
      .ok (.value (.slice (some ⟨g, 0, none⟩) (n + m) cap)) (w.setRow g (L.take (n * size) ++ news ++ L.drop (n * size + news.length)).toArray) := by
  subst hsz
  have := run_append_room (P := P) w t ty e i ht hi g n cap L.toArray hg a m c news hl hnews h1 hroom (by simpa using hfit)
  simp only [builtin, Sem.run_bind, this, Result.andThen_ok, Sem.run_pure]

theorem run_copy_blk (w : World) {t e : TypeId} {i : TypeInfo} {size : Nat} (ht : P.underlying t = some (.slice e)) (hi : P.info? e = some i) (hsz : i.size = size) {g : Nat} {L : List Value} (hg : Blk w g e L)
    (o dLen dCap : Nat) (a : Addr) (m c : Nat) (news : List Value) (hl : news.length = Nat.min m dLen * size) (hnews : ∀ j u, news[j]? = some u → w.cell? (a.add j) = some u) (h1 : ∀ u ∈ news, u.oneCell' = true)
    (hfit : o + news.length ≤ L.length) (ty : TypeId) (cs : Array Bool) :
    (builtin .copy #[t, t] ty cs #[.slice (some ⟨g, o, none⟩) dLen dCap, .slice (some a) m c]).run P w =
      .ok (.value (goInt (Nat.min m dLen))) (w.setRow g (L.take o ++ news ++ L.drop (o + news.length)).toArray) := by
  subst hsz
  have hlc := run_loadCells_list (P := P) w a news hnews
  rw [hl] at hlc
  have hst := run_storeCells_at P g o e news 0 L.toArray w hg (by simpa using hfit) h1
  simp [builtin, Builtin.copy_, run_underlying ht, Builtin.lenOf, Builtin.firstCells, sizeOf, typeInfo, hi, hlc, hst]

theorem run_clear_blk (w : World) {t e : TypeId} {z : List Value} (ht : P.underlying t = some (.slice e)) (hz : ∀ w, (zeroValue e).run P w = .ok (.agg z.toArray) w) (h1 : ∀ u ∈ z, u.oneCell' = true) {g : Nat} {L : List Value} (hg : Blk w g e L)
    (o m c : Nat) (hm : m = 1) (hfit : o + z.length ≤ L.length) (ty : TypeId) (cs : Array Bool) :
    (builtin .clear #[t] ty cs #[.slice (some ⟨g, o, none⟩) m c]).run P w = .ok (.value (.tuple #[])) (w.setRow g (L.take o ++ z ++ L.drop (o + z.length)).toArray) := by
  subst hm
  have hst := run_storeCells_at P g o e z 0 L.toArray w hg (by simpa using hfit) h1
  have hzc : (Builtin.zeroCells z.toArray 1).toList = z := by
    unfold Builtin.zeroCells
    apply List.ext_getElem?
    intro j
    simp only [Array.toList_map, List.getElem?_map, Nat.one_mul, List.size_toArray]
    by_cases hj : j < z.length
    · simp [hj, Nat.mod_eq_of_lt hj]
    · simp [hj]
  simp [builtin, Builtin.clear_, run_underlying ht, hz, Value.cells, hzc, hst]
end

end Go.Proofs.YtgplaeopcejmoaaGreatDoor
