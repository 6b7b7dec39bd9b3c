/- Laws on rows of memory that are known whole: append within the room, copy, clear. Any program, any element type. Bytes of the call's own: append, and back to a text. -/
import Derived.WalkKit
import Derived.WalkSpells
import Derived.Laws.CopyRow
import Derived.Laws.AppendOwn
import Derived.Deep.RegionLaw
import Derived.Deep.QuietTactic
import Derived.Test.YtgplaeopcejmoaaGreatDoorWords
import Derived.Test.YtgplaeopcejmoaaGreatDoorRows
import Derived.WalkLawsBesides
import Derived.Lib.Hide
import Derived.Lib.AppendStr
import Derived.Maps.AppendAt
import Derived.Deep.AppendLies
import Derived.RegionTactic
import Derived.OwnWalk
namespace Go.Proofs.YtgplaeopcejmoaaGreatDoor
open Go.RowKit

/-- block g is a row of element type e that holds the list L, none of it frozen -/
def Blk (w : World) (g : Nat) (e : TypeId) (L : List Value) : Prop := w.heap[g]? = some (.cells L.toArray e (0, 0))

section
variable {w w' : World} {g : Nat} {e : TypeId} {L : List Value}
theorem Blk.lt (h : Blk w g e L) : g < w.heap.size := (Array.getElem?_eq_some_iff.1 h).1
theorem Blk.cell (h : Blk w g e L) (j : Nat) : w.cell? ⟨g, j, none⟩ = L[j]? := by
  rw [cell_of_row w g j L.toArray e (0, 0) h]; simp
theorem Blk.frozen (h : Blk w g e L) (j : Nat) : w.frozen? ⟨g, j, none⟩ = false := by
  unfold Blk at h; simp [World.frozen?, h]
theorem Blk.set (h : Blk w g e L) (K : List Value) : Blk (w.setRow g K.toArray) g e K := setRow_heap w g _ _ e _ h
theorem Blk.drew (h : Blk w g e L) : Blk w.drew g e L := h
theorem Blk.drewN (h : Blk w g e L) (n : Nat) : Blk (w.drewN n) g e L := h
theorem Blk.alloc (h : Blk w g e L) (o : Obj) : Blk (w.alloc o) g e L := (Below.heap_alloc w o g h.lt).trans h
theorem Blk.new (w : World) (e : TypeId) (L : List Value) : Blk (w.alloc (.cells L.toArray e)) w.heap.size e L := heap_alloc_new w _
theorem Blk.grown {row : Option Nat} (h : Blk w g e L) (hb : w.grownBy w' row) (hg : some g ≠ row) : Blk w' g e L := (hb.block g h.lt hg).trans h
theorem Blk.below {B : Nat} (h : Blk w g e L) (hb : Below B w w') (hg : g < B) : Blk w' g e L := (hb.block g hg).trans h
theorem Blk.other (h : Blk w g e L) {k : Nat} (hk : g ≠ k) (cs : Array Value) : Blk (w.setRow k cs) g e L := (setRow_other w k g cs hk).trans h
end

theorem grown_undrew {W W' : World} {r : Option Nat} (h : W.drew.grownBy W' r) : W.grownBy W' r := ⟨h.os, h.tape, h.output, h.size, h.block⟩
theorem below_undrew {W W' : World} {B : Nat} (h : Below B W.drew W') : Below B W W' := ⟨h.os, h.tape, h.output, h.size, h.block⟩
theorem below_undrewN {W W' : World} {B n : Nat} (h : Below B (W.drewN n) W') : Below B W W' := ⟨h.os, h.tape, h.output, h.size, h.block⟩
theorem grownBy_setRow (w : World) (g : Nat) (cs : Array Value) : w.grownBy (w.setRow g cs) (some g) :=
  ⟨rfl, rfl, rfl, by simp [World.setRow], fun k _ hk => setRow_other w g k cs (fun e => hk (by rw [e]))⟩
theorem grownBy_drew (w : World) (row : Option Nat) : w.grownBy w.drew row := ⟨rfl, rfl, rfl, Nat.le_refl _, fun _ _ _ => rfl⟩
theorem grownBy_drewN (w : World) (n : Nat) (row : Option Nat) : w.grownBy (w.drewN n) row := ⟨rfl, rfl, rfl, Nat.le_refl _, fun _ _ _ => rfl⟩
theorem grownBy_trans {a b c : World} {row : Option Nat} (h : a.grownBy b row) (k : b.grownBy c row) : a.grownBy c row :=
  ⟨k.os.trans h.os, k.tape.trans h.tape, k.output.trans h.output, Nat.le_trans h.size k.size, fun j hj hr => (k.block j (Nat.lt_of_lt_of_le hj h.size) hr).trans (h.block j hj hr)⟩
/-- a block that is not there yet may be written -/
theorem grownBy_new {a b c : World} {row : Option Nat} {g : Nat} (h : a.grownBy b row) (k : b.grownBy c (some g)) (hg : a.heap.size ≤ g) : a.grownBy c row :=
  ⟨k.os.trans h.os, k.tape.trans h.tape, k.output.trans h.output, Nat.le_trans h.size k.size, fun j hj hr => (k.block j (Nat.lt_of_lt_of_le hj h.size) (fun e => by cases e; omega)).trans (h.block j hj hr)⟩
theorem grownBy_of_below {a b : World} {B : Nat} (row : Option Nat) (h : Below B a b) (hB : a.heap.size ≤ B) : a.grownBy b row :=
  ⟨h.os, h.tape, h.output, h.size, fun j hj _ => h.block j (by omega)⟩

section
variable {P : Program}

/-- any builtin call whose run is known, in a plain region: two operands -/
theorem wpList_two {w : World} {ops : Array Oper} {rest : List Oper} {o : Oper} {a : Act} {Q : Exit → Act → World → Prop} (hgd : o.guard = none) (b : Builtin) (d s : Operand) (ts : Array TypeId)
    (ho : o.op = .call { callee := .builtin b, args := #[d, s], argTypes := ts }) (v u : Value) (hd : a.eval d = v) (hs : a.eval s = u) {x : Value} {w' : World}
    (hr : ∀ cs, (builtin b ts o.type cs #[v, u]).run P w = .ok (.value x) w') (h : wpList P ops Q rest (a.put o.dst x) w') : wpList P ops Q (o :: rest) a w := by
  refine wpList_plain hgd fun K hK => ?_
  unfold Oper.wp execOp
  simp only [ho, resolve, invoke, Sem.run_bind, Sem.run_pure, Result.andThen_ok, List.map_toArray, List.map_cons, List.map_nil, hd, hs, hr]
  exact hK _ _ h
theorem wpList_one {w : World} {ops : Array Oper} {rest : List Oper} {o : Oper} {a : Act} {Q : Exit → Act → World → Prop} (hgd : o.guard = none) (b : Builtin) (d : Operand) (ts : Array TypeId)
    (ho : o.op = .call { callee := .builtin b, args := #[d], argTypes := ts }) (v : Value) (hd : a.eval d = v) {x : Value} {w' : World}
    (hr : ∀ cs, (builtin b ts o.type cs #[v]).run P w = .ok (.value x) w') (h : wpList P ops Q rest (a.put o.dst x) w') : wpList P ops Q (o :: rest) a w := by
  refine wpList_plain hgd fun K hK => ?_
  unfold Oper.wp execOp
  simp only [ho, resolve, invoke, Sem.run_bind, Sem.run_pure, Result.andThen_ok, List.map_toArray, List.map_cons, List.map_nil, hd, hr]
  exact hK _ _ h
/-- the same as one step of a region that draws -/
theorem step_two {w : World} {ops : Array Oper} {o : Oper} {a : Act} {K : Act → World → Prop} {Q : Exit → Act → World → Prop} {E : Prop} (hgd : o.guard = none) (b : Builtin) (d s : Operand) (ts : Array TypeId)
    (ho : o.op = .call { callee := .builtin b, args := #[d, s], argTypes := ts }) (v u : Value) (hd : a.eval d = v) (hs : a.eval s = u) {x : Value} {w' : World}
    (hr : ∀ cs, (builtin b ts o.type cs #[v, u]).run P w = .ok (.value x) w') (h : K (a.put o.dst x) w') : if Region.wanted o (yielded ops a.tmps) = true then Oper.wp P o a w K Q else E := by
  have hw : Region.wanted o (yielded ops a.tmps) = true := by simp [Region.wanted, hgd]
  rw [if_pos hw]
  unfold Oper.wp execOp
  simp only [ho, resolve, invoke, Sem.run_bind, Sem.run_pure, Result.andThen_ok, List.map_toArray, List.map_cons, List.map_nil, hd, hs, hr]
  exact h

/-- a call of a function by its contract, as one step of a region that draws -/
theorem step_call1 {w : World} {ops : Array Oper} {o : Oper} {a : Act} {K : Act → World → Prop} {Q : Exit → Act → World → Prop} {E : Prop} (hgd : o.guard = none) (f : FuncId) (x : Operand) (ts : Array TypeId)
    (ho : o.op = .call { callee := .value (.func f), args := #[x], argTypes := ts }) (hent : ∀ args w, (callFunc f args).run P w = .ok (.enter f args) w) (arg : Value) (hx : a.eval x = arg) {R : Value → World → Prop}
    (hc : Calls P f #[arg] w fun e w' => ∃ v, e = .returned v ∧ R v w') (h : ∀ v w', R v w' → K (a.put o.dst v) w') : if Region.wanted o (yielded ops a.tmps) = true then Oper.wp P o a w K Q else E := by
  have hw : Region.wanted o (yielded ops a.tmps) = true := by simp [Region.wanted, hgd]
  rw [if_pos hw]
  have hr : (execOp a.eval o).run P w = .ok (.enter f #[arg]) w := by
    unfold execOp
    have hf : a.eval (.func f) = .func (.func f) #[] #[] := rfl
    simp [ho, resolve, invoke, hx, hf, hent, Deferred.ofValue]
  unfold Oper.wp
  rw [hr, Oper.upon_enter]
  refine hc.mono fun e w' ⟨v, he, hR⟩ => ?_
  subst he
  exact h v w' hR

theorem run_append_blk (w : World) {t e : TypeId} {i : TypeInfo} {size : Nat} (ht : P.underlying t = some (.slice e)) (hi : P.info? e = some i) (hsz : i.size = size) {g : Nat} {L : List Value} (hg : Blk w g e L)
    (n cap : Nat) (a : Addr) (m c : Nat) (news : List Value) (hl : news.length = m * size) (hnews : ∀ j u, news[j]? = some u → w.cell? (a.add j) = some u) (h1 : ∀ u ∈ news, u.oneCell' = true)
    (hroom : n + m ≤ cap) (hfit : n * size + news.length ≤ L.length) (ty : TypeId) (cs : Array Bool) :
    (builtin .append #[t, t] ty cs #[.slice (some ⟨g, 0, none⟩) n cap, .slice (some a) m c]).run P w =
      .ok (.value (.slice (some ⟨g, 0, none⟩) (n + m) cap)) (w.setRow g (L.take (n * size) ++ news ++ L.drop (n * size + news.length)).toArray) := by
  subst hsz
  have := run_append_room (P := P) w t ty e i ht hi g n cap L.toArray hg a m c news hl hnews h1 hroom (by simpa using hfit)
  simp only [builtin, Sem.run_bind, this, Result.andThen_ok, Sem.run_pure]

theorem run_copy_blk (w : World) {t e : TypeId} {i : TypeInfo} {size : Nat} (ht : P.underlying t = some (.slice e)) (hi : P.info? e = some i) (hsz : i.size = size) {g : Nat} {L : List Value} (hg : Blk w g e L)
    (o dLen dCap : Nat) (a : Addr) (m c : Nat) (news : List Value) (hl : news.length = Nat.min m dLen * size) (hnews : ∀ j u, news[j]? = some u → w.cell? (a.add j) = some u) (h1 : ∀ u ∈ news, u.oneCell' = true)
    (hfit : o + news.length ≤ L.length) (ty : TypeId) (cs : Array Bool) :
    (builtin .copy #[t, t] ty cs #[.slice (some ⟨g, o, none⟩) dLen dCap, .slice (some a) m c]).run P w =
      .ok (.value (goInt (Nat.min m dLen))) (w.setRow g (L.take o ++ news ++ L.drop (o + news.length)).toArray) := by
  subst hsz
  have hlc := run_loadCells_list (P := P) w a news hnews
  rw [hl] at hlc
  have hst := run_storeCells_at P g o e news 0 L.toArray w hg (by simpa using hfit) h1
  simp [builtin, Builtin.copy_, run_underlying ht, Builtin.lenOf, Builtin.firstCells, sizeOf, typeInfo, hi, hlc, hst]

theorem run_clear_blk (w : World) {t e : TypeId} {z : List Value} (ht : P.underlying t = some (.slice e)) (hz : ∀ w, (zeroValue e).run P w = .ok (.agg z.toArray) w) (h1 : ∀ u ∈ z, u.oneCell' = true) {g : Nat} {L : List Value} (hg : Blk w g e L)
    (o m c : Nat) (hm : m = 1) (hfit : o + z.length ≤ L.length) (ty : TypeId) (cs : Array Bool) :
    (builtin .clear #[t] ty cs #[.slice (some ⟨g, o, none⟩) m c]).run P w = .ok (.value (.tuple #[])) (w.setRow g (L.take o ++ z ++ L.drop (o + z.length)).toArray) := by
  subst hm
  have hst := run_storeCells_at P g o e z 0 L.toArray w hg (by simpa using hfit) h1
  have hzc : (Builtin.zeroCells z.toArray 1).toList = z := by
    unfold Builtin.zeroCells
    apply List.ext_getElem?
    intro j
    simp only [Array.toList_map, List.getElem?_map, Nat.one_mul, List.size_toArray]
    by_cases hj : j < z.length
    · simp [hj, Nat.mod_eq_of_lt hj]
    · simp [hj]
  simp [builtin, Builtin.clear_, run_underlying ht, hz, Value.cells, hzc, hst]
end

end Go.Proofs.YtgplaeopcejmoaaGreatDoor
namespace Go.Proofs.YtgplaeopcejmoaaGreatDoor
open Go.RowKit

theorem ret_bool {a b : Bool} (h : a = b) : Ending.returned (.bool a) = .returned (.bool b) := by rw [h]
theorem ret_str {a b : ByteArray} (h : a = b) : Ending.returned (.string a) = .returned (.string b) := by rw [h]
theorem cell_lt {w : World} {a : Addr} {v : Value} (h : w.cell? a = some v) : a.block < w.heap.size := by
  rcases Nat.lt_or_ge a.block w.heap.size with hlt | hge
  · exact hlt
  · simp [World.cell?, Array.getElem?_eq_none hge] at h
theorem below_of_grown_none {w w1 : World} (h : w.grownBy w1 none) : Below w.heap.size w w1 := ⟨h.os, h.tape, h.output, h.size, fun j hj => h.block j hj (by simp)⟩

theorem infoU8 : (Tryz.prog.info? 5).map (fun i => (i.zero, i.size, i.bytes)) = some (some (.int .u8 0), 1, 1) := by kernel_rfl

/-- the cells of bytes -/
def cellsB (l : Bs) : List Value := l.map fun b => .int .u8 (b.toNat : Int)
theorem cellsB_length (l : Bs) : (cellsB l).length = l.length := by simp [cellsB]
theorem cellsB_append (a b : Bs) : cellsB (a ++ b) = cellsB a ++ cellsB b := by simp [cellsB]
theorem cellsB_one (l : Bs) : ∀ u ∈ cellsB l, u.oneCell' = true := by
  intro u hu
  obtain ⟨b, _, rfl⟩ := List.mem_map.1 hu
  rfl
/-- a slice of bytes of the call's own (blocks from base on), nil where it has none -/
def OwnB (w : World) (base : Nat) (v : Value) (l : Bs) : Prop := w.ownsRow base 5 1 v l.length (cellsB l)
theorem OwnB.nil (w : World) (base : Nat) : OwnB w base (.slice none 0 0) [] := World.ownsRow_nil _ _ _ _
theorem OwnB.below {w w' : World} {base : Nat} {v : Value} {l : Bs} (h : OwnB w base v l) (hb : Below w.heap.size w w') : OwnB w' base v l :=
  World.ownsRow.kept h ⟨hb.os, hb.tape, hb.output, hb.size, fun j hj _ => hb.block j hj⟩ (row := none) (by
    cases e : v.ownBlock with
    | none => exact .inl rfl
    | some g => exact .inr (by simp))
theorem OwnB.form {w : World} {base : Nat} {v : Value} {l : Bs} (h : OwnB w base v l) (hl : l ≠ []) : ∃ g cap, v = .slice (some ⟨g, 0, none⟩) l.length cap ∧ base ≤ g ∧ g < w.heap.size :=
  World.ownsRow.form h (List.length_pos_iff.2 hl)

theorem OwnB.any {w : World} {base : Nat} {v : Value} {l : Bs} (h : OwnB w base v l) : ∃ A c, v = .slice A l.length c := by
  rcases h.2 with ⟨rfl, hx⟩ | ⟨g, cap, cur, rfl, _⟩
  · have hl : l = [] := List.eq_nil_of_length_eq_zero hx
    subst hl; exact ⟨none, 0, rfl⟩
  · exact ⟨_, _, rfl⟩

theorem append_b (w : World) (base : Nat) (v : Value) (xs : Bs) (hown : OwnB w base v xs) (hn : xs.length ≤ 1000000) (hbase : base ≤ w.heap.size) (ad : Addr) (m c : Nat) (news : Bs) (hm : m = news.length) (hn2 : m ≤ 1000000)
    (hnews : ∀ j u, (cellsB news)[j]? = some u → w.cell? (ad.add j) = some u) (ty : TypeId) :
    ∃ v' w', (∀ cs, (builtin .append #[77, 77] ty cs #[v, .slice (some ad) m c]).run Tryz.prog w = .ok (.value v') w') ∧ OwnB w' base v' (xs ++ news) ∧ w.grownBy w' v.ownBlock := by
  subst hm
  obtain ⟨i0, hi0, hz0, hz1, hz2⟩ := info_parts infoU8
  obtain ⟨v', w', hr, h1, h2, _⟩ := run_append_own (P := Tryz.prog) w base 77 ty 5 i0 _ 1 1 Tryz.underlying77 hi0 hz0 hz1 hz2 rfl (by omega) v xs.length (cellsB xs) hown ad news.length c (cellsB news) (by simp [cellsB]) hnews (cellsB_one _) (by unfold maxLen; omega) (by omega) hbase
  refine ⟨v', w', fun _ => by simp only [builtin, Sem.run_bind, hr, Result.andThen_ok, Sem.run_pure], ?_, h2⟩
  unfold OwnB
  rw [List.length_append, cellsB_append]
  exact h1

theorem step_append_b {w : World} {ops : Array Oper} {o : Oper} {a : Act} {K : Act → World → Prop} {Q : Exit → Act → World → Prop} {E : Prop} (hgd : o.guard = none) (s x : Operand)
    (ho : o.op = .call { callee := .builtin .append, args := #[s, x], argTypes := #[77, 77] }) (base : Nat) (v : Value) (xs : Bs) (ad : Addr) (m c : Nat) (news : Bs) (hs : a.eval s = v) (hx : a.eval x = .slice (some ad) m c)
    (hown : OwnB w base v xs) (hn : xs.length ≤ 1000000) (hbase : base ≤ w.heap.size) (hm : m = news.length) (hn2 : m ≤ 1000000) (hnews : ∀ j u, (cellsB news)[j]? = some u → w.cell? (ad.add j) = some u)
    (h : ∀ v' w', OwnB w' base v' (xs ++ news) → w.grownBy w' v.ownBlock → K (a.put o.dst v') w') : if Region.wanted o (yielded ops a.tmps) = true then Oper.wp Tryz.prog o a w K Q else E := by
  obtain ⟨v', w', hr, h1, h2⟩ := append_b w base v xs hown hn hbase ad m c news hm hn2 hnews o.type
  exact step_two hgd .append s x #[77, 77] ho v _ hs hx hr (h v' w' h1 h2)
theorem wpList_append_b {w : World} {ops : Array Oper} {rest : List Oper} {o : Oper} {a : Act} {Q : Exit → Act → World → Prop} (hgd : o.guard = none) (s x : Operand)
    (ho : o.op = .call { callee := .builtin .append, args := #[s, x], argTypes := #[77, 77] }) (base : Nat) (v : Value) (xs : Bs) (ad : Addr) (m c : Nat) (news : Bs) (hs : a.eval s = v) (hx : a.eval x = .slice (some ad) m c)
    (hown : OwnB w base v xs) (hn : xs.length ≤ 1000000) (hbase : base ≤ w.heap.size) (hm : m = news.length) (hn2 : m ≤ 1000000) (hnews : ∀ j u, (cellsB news)[j]? = some u → w.cell? (ad.add j) = some u)
    (h : ∀ v' w', OwnB w' base v' (xs ++ news) → w.grownBy w' v.ownBlock → wpList Tryz.prog ops Q rest (a.put o.dst v') w') : wpList Tryz.prog ops Q (o :: rest) a w := by
  obtain ⟨v', w', hr, h1, h2⟩ := append_b w base v xs hown hn hbase ad m c news hm hn2 hnews o.type
  exact wpList_two hgd .append s x #[77, 77] ho v _ hs hx hr (h v' w' h1 h2)

theorem append_bs (w : World) (base : Nat) (v : Value) (xs : Bs) (hown : OwnB w base v xs) (hn : xs.length ≤ 1000000) (hbase : base ≤ w.heap.size) (s : ByteArray) (hn2 : s.size ≤ 1000000) (ty : TypeId) :
    ∃ v' w', (∀ cs, (builtin .append #[77, 9] ty cs #[v, .string s]).run Tryz.prog w = .ok (.value v') w') ∧ OwnB w' base v' (xs ++ s.data.toList) ∧ w.grownBy w' v.ownBlock := by
  obtain ⟨i0, hi0, hz0, hz1, hz2⟩ := info_parts infoU8
  obtain ⟨v', w', hr, h1, h2, _⟩ := Lib.run_append_own_string (P := Tryz.prog) w base 77 9 ty 5 i0 Tryz.underlying77 Tryz.underlying9 hi0 hz0 hz1 hz2 v xs.length (cellsB xs) hown s (by unfold maxLen; omega) (by omega) hbase
  refine ⟨v', w', fun _ => by simp only [builtin, Sem.run_bind, hr, Result.andThen_ok, Sem.run_pure], ?_, h2⟩
  unfold OwnB
  have e : s.data.toList.length = s.size := by rw [Array.length_toList]; rfl
  rw [List.length_append, cellsB_append, e]
  exact h1
theorem step_append_bs {w : World} {ops : Array Oper} {o : Oper} {a : Act} {K : Act → World → Prop} {Q : Exit → Act → World → Prop} {E : Prop} (hgd : o.guard = none) (d x : Operand)
    (ho : o.op = .call { callee := .builtin .append, args := #[d, x], argTypes := #[77, 9] }) (base : Nat) (v : Value) (xs : Bs) (s : ByteArray) (hs : a.eval d = v) (hx : a.eval x = .string s)
    (hown : OwnB w base v xs) (hn : xs.length ≤ 1000000) (hbase : base ≤ w.heap.size) (hn2 : s.size ≤ 1000000)
    (h : ∀ v' w', OwnB w' base v' (xs ++ s.data.toList) → w.grownBy w' v.ownBlock → K (a.put o.dst v') w') : if Region.wanted o (yielded ops a.tmps) = true then Oper.wp Tryz.prog o a w K Q else E := by
  obtain ⟨v', w', hr, h1, h2⟩ := append_bs w base v xs hown hn hbase s hn2 o.type
  exact step_two hgd .append d x #[77, 9] ho v _ hs hx hr (h v' w' h1 h2)
theorem wpList_append_bs {w : World} {ops : Array Oper} {rest : List Oper} {o : Oper} {a : Act} {Q : Exit → Act → World → Prop} (hgd : o.guard = none) (d x : Operand)
    (ho : o.op = .call { callee := .builtin .append, args := #[d, x], argTypes := #[77, 9] }) (base : Nat) (v : Value) (xs : Bs) (s : ByteArray) (hs : a.eval d = v) (hx : a.eval x = .string s)
    (hown : OwnB w base v xs) (hn : xs.length ≤ 1000000) (hbase : base ≤ w.heap.size) (hn2 : s.size ≤ 1000000)
    (h : ∀ v' w', OwnB w' base v' (xs ++ s.data.toList) → w.grownBy w' v.ownBlock → wpList Tryz.prog ops Q rest (a.put o.dst v') w') : wpList Tryz.prog ops Q (o :: rest) a w := by
  obtain ⟨v', w', hr, h1, h2⟩ := append_bs w base v xs hown hn hbase s hn2 o.type
  exact wpList_two hgd .append d x #[77, 9] ho v _ hs hx hr (h v' w' h1 h2)

/-- bytes that lie in a block just made -/
theorem news_lit (w : World) (l : Bs) (j : Nat) (u : Value) (h : (cellsB l)[j]? = some u) : (w.alloc (.cells (cellsB l).toArray 5)).cell? ((⟨w.heap.size, 0, none⟩ : Addr).add j) = some u := by
  rw [Addr.add_lit]
  have := (Blk.new w 5 (cellsB l)).cell (0 + j)
  rw [this, Nat.zero_add]; exact h

theorem conv_own {w : World} {base : Nat} {v : Value} {l : Bs} (h : OwnB w base v l) : (convert 77 9 v).run Tryz.prog w = .ok (.string ⟨l.toArray⟩) w := by
  rcases h.2 with ⟨rfl, hx⟩ | ⟨g, cap, cur, rfl, _, _, _, _⟩
  · have hl : l = [] := List.eq_nil_of_length_eq_zero hx
    subst hl
    exact run_convert_bytes_nil w 77 5 Tryz.underlying77 Tryz.underlying5 0 0 9 Tryz.underlying9
  · have hc := World.ownsRow.cells h (g := g) rfl
    refine run_convert_bytes_back w 77 9 5 _ cap l Tryz.underlying77 Tryz.underlying5 Tryz.underlying9 fun j hj => ?_
    exact hc j _ (by simp [cellsB, hj])

/-- a text's byte -/
theorem letter {n : Nat} (h : n < 16) : ((#[48, 49, 50, 51, 52, 53, 54, 55, 56, 57, 97, 98, 99, 100, 101, 102] : Array UInt8)[n]?) = some (hexd n) := by
  have : ∀ k : Fin 16, ((#[48, 49, 50, 51, 52, 53, 54, 55, 56, 57, 97, 98, 99, 100, 101, 102] : Array UInt8)[k.val]?) = some (hexd k.val) := by decide
  exact this ⟨n, h⟩

end Go.Proofs.YtgplaeopcejmoaaGreatDoor
