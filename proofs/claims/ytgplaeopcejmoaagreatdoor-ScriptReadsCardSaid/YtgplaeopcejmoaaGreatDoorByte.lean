/- Bytes of the call's own: append, and back to a text. -/
import Derived.Test.YtgplaeopcejmoaaGreatDoorWords
import Derived.Test.YtgplaeopcejmoaaGreatDoorRows
import Derived.Test.YtgplaeopcejmoaaGreatDoorRow
import Derived.WalkKit
import Derived.WalkSpells
import Derived.WalkLawsBesides
import Derived.Lib.Hide
import Derived.Lib.AppendStr
import Derived.Maps.AppendAt
import Derived.Deep.AppendLies
import Derived.RegionTactic
import Derived.OwnWalk
import Derived.Deep.RegionLaw
import Derived.Deep.QuietTactic
namespace Go.Proofs.YtgplaeopcejmoaaGreatDoor
open Go.RowKit

theorem ret_bool {a b : Bool} (h : a = b) : Ending.returned (.bool a) = .returned (.bool b) := by rw [h]
theorem ret_str {a b : ByteArray} (h : a = b) : Ending.returned (.string a) = .returned (.string b) := by rw [h]
theorem cell_lt {w : World} {a : Addr} {v : Value} (h : w.cell? a = some v) : a.block < w.heap.size := by
  rcases Nat.lt_or_ge a.block w.heap.size with hlt | hge
  · exact hlt
  · simp [World.cell?, Array.getElem?_eq_none hge] at h
theorem below_of_grown_none {w w1 : World} (h : w.grownBy w1 none) : Below w.heap.size w w1 := ⟨h.os, h.tape, h.output, h.size, fun j hj => h.block j hj (by simp)⟩

theorem infoU8 : (Tryz.prog.info? 5).map (fun i => (i.zero, i.size, i.bytes)) = some (some (.int .u8 0), 1, 1) := by kernel_rfl

/-- the cells of bytes -/
def cellsB (l : Bs) : List Value := l.map fun b => .int .u8 (b.toNat : Int)
theorem cellsB_length (l : Bs) : (cellsB l).length = l.length := by simp [cellsB]
theorem cellsB_append (a b : Bs) : cellsB (a ++ b) = cellsB a ++ cellsB b := by simp [cellsB]
theorem cellsB_one (l : Bs) : ∀ u ∈ cellsB l, u.oneCell' = true := by
  intro u hu
  obtain ⟨b, _, rfl⟩ := List.mem_map.1 hu
  rfl
/-- a slice of bytes of the call's own (blocks from base on), nil where it has none -/
def OwnB (w : World) (base : Nat) (v : Value) (l : Bs) : Prop := w.ownsRow base 5 1 v l.length (cellsB l)
theorem OwnB.nil (w : World) (base : Nat) : OwnB w base (.slice none 0 0) [] := World.ownsRow_nil _ _ _ _
theorem OwnB.below {w w' : World} {base : Nat} {v : Value} {l : Bs} (h : OwnB w base v l) (hb : Below w.heap.size w w') : OwnB w' base v l :=
  World.ownsRow.kept h ⟨hb.os, hb.tape, hb.output, hb.size, fun j hj _ => hb.block j hj⟩ (row := none) (by
    cases e : v.ownBlock with
    | none => exact .inl rfl
    | some g => exact .inr (by simp))
theorem OwnB.form {w : World} {base : Nat} {v : Value} {l : Bs} (h : OwnB w base v l) (hl : l ≠ []) : ∃ g cap, v = .slice (some ⟨g, 0, none⟩) l.length cap ∧ base ≤ g ∧ g < w.heap.size :=
  World.ownsRow.form h (List.length_pos_iff.2 hl)

theorem OwnB.any {w : World} {base : Nat} {v : Value} {l : Bs} (h : OwnB w base v l) : ∃ A c, v = .slice A l.length c := by
  rcases h.2 with ⟨rfl, hx⟩ | ⟨g, cap, cur, rfl, _⟩
  · have hl : l = [] := List.eq_nil_of_length_eq_zero hx
    subst hl; exact ⟨none, 0, rfl⟩
  · exact ⟨_, _, rfl⟩

theorem append_b (w : World) (base : Nat) (v : Value) (xs : Bs) (hown : OwnB w base v xs) (hn : xs.length ≤ 1000000) (hbase : base ≤ w.heap.size) (ad : Addr) (m c : Nat) (news : Bs) (hm : m = news.length) (hn2 : m ≤ 1000000)
    (hnews : ∀ j u, (cellsB news)[j]? = some u → w.cell? (ad.add j) = some u) (ty : TypeId) :
    ∃ v' w', (∀ cs, (builtin .append #[77, 77] ty cs #[v, .slice (some ad) m c]).run Tryz.prog w = .ok (.value v') w') ∧ OwnB w' base v' (xs ++ news) ∧ w.grownBy w' v.ownBlock := by
  subst hm
  obtain ⟨i0, hi0, hz0, hz1, hz2⟩ := info_parts infoU8
  obtain ⟨v', w', hr, h1, h2, _⟩ := run_append_own (P := Tryz.prog) w base 77 ty 5 i0 _ 1 1 Tryz.underlying77 hi0 hz0 hz1 hz2 rfl (by omega) v xs.length (cellsB xs) hown ad news.length c (cellsB news) (by simp [cellsB]) hnews (cellsB_one _) (by unfold maxLen; omega) (by omega) hbase
  refine ⟨v', w', fun _ => by simp only [builtin, Sem.run_bind, hr, Result.andThen_ok, Sem.run_pure], ?_, h2⟩
  unfold OwnB
  rw [List.length_append, cellsB_append]
  exact h1

theorem step_append_b {w : World} {ops : Array Oper} {o : Oper} {a : Act} {K : Act → World → Prop} {Q : Exit → Act → World → Prop} {E : Prop} (hgd : o.guard = none) (s x : Operand)
    (ho : o.op = .call { callee := .builtin .append, args := #[s, x], argTypes := #[77, 77] }) (base : Nat) (v : Value) (xs : Bs) (ad : Addr) (m c : Nat) (news : Bs) (hs : a.eval s = v) (hx : a.eval x = .slice (some ad) m c)
    (hown : OwnB w base v xs) (hn : xs.length ≤ 1000000) (hbase : base ≤ w.heap.size) (hm : m = news.length) (hn2 : m ≤ 1000000) (hnews : ∀ j u, (cellsB news)[j]? = some u → w.cell? (ad.add j) = some u)
    (h : ∀ v' w', OwnB w' base v' (xs ++ news) → w.grownBy w' v.ownBlock → K (a.put o.dst v') w') : if Region.wanted o (yielded ops a.tmps) = true then Oper.wp Tryz.prog o a w K Q else E := by
  obtain ⟨v', w', hr, h1, h2⟩ := append_b w base v xs hown hn hbase ad m c news hm hn2 hnews o.type
  exact step_two hgd .append s x #[77, 77] ho v _ hs hx hr (h v' w' h1 h2)
theorem wpList_append_b {w : World} {ops : Array Oper} {rest : List Oper} {o : Oper} {a : Act} {Q : Exit → Act → World → Prop} (hgd : o.guard = none) (s x : Operand)
    (ho : o.op = .call { callee := .builtin .append, args := #[s, x], argTypes := #[77, 77] }) (base : Nat) (v : Value) (xs : Bs) (ad : Addr) (m c : Nat) (news : Bs) (hs : a.eval s = v) (hx : a.eval x = .slice (some ad) m c)
    (hown : OwnB w base v xs) (hn : xs.length ≤ 1000000) (hbase : base ≤ w.heap.size) (hm : m = news.length) (hn2 : m ≤ 1000000) (hnews : ∀ j u, (cellsB news)[j]? = some u → w.cell? (ad.add j) = some u)
    (h : ∀ v' w', OwnB w' base v' (xs ++ news) → w.grownBy w' v.ownBlock → wpList Tryz.prog ops Q rest (a.put o.dst v') w') : wpList Tryz.prog ops Q (o :: rest) a w := by
  obtain ⟨v', w', hr, h1, h2⟩ := append_b w base v xs hown hn hbase ad m c news hm hn2 hnews o.type
  exact wpList_two hgd .append s x #[77, 77] ho v _ hs hx hr (h v' w' h1 h2)

theorem append_bs (w : World) (base : Nat) (v : Value) (xs : Bs) (hown : OwnB w base v xs) (hn : xs.length ≤ 1000000) (hbase : base ≤ w.heap.size) (s : ByteArray) (hn2 : s.size ≤ 1000000) (ty : TypeId) :
    ∃ v' w', (∀ cs, (builtin .append #[77, 9] ty cs #[v, .string s]).run Tryz.prog w = .ok (.value v') w') ∧ OwnB w' base v' (xs ++ s.data.toList) ∧ w.grownBy w' v.ownBlock := by
  obtain ⟨i0, hi0, hz0, hz1, hz2⟩ := info_parts infoU8
  obtain ⟨v', w', hr, h1, h2, _⟩ := Lib.run_append_own_string (P := Tryz.prog) w base 77 9 ty 5 i0 Tryz.underlying77 Tryz.underlying9 hi0 hz0 hz1 hz2 v xs.length (cellsB xs) hown s (by unfold maxLen; omega) (by omega) hbase
  refine ⟨v', w', fun _ => by simp only [builtin, Sem.run_bind, hr, Result.andThen_ok, Sem.run_pure], ?_, h2⟩
  unfold OwnB
  have e : s.data.toList.length = s.size := by rw [Array.length_toList]; rfl
  rw [List.length_append, cellsB_append, e]
  exact h1
theorem step_append_bs {w : World} {ops : Array Oper} {o : Oper} {a : Act} {K : Act → World → Prop} {Q : Exit → Act → World → Prop} {E : Prop} (hgd : o.guard = none) (d x : Operand)
    (ho : o.op = .call { callee := .builtin .append, args := #[d, x], argTypes := #[77, 9] }) (base : Nat) (v : Value) (xs : Bs) (s : ByteArray) (hs : a.eval d = v) (hx : a.eval x = .string s)
    (hown : OwnB w base v xs) (hn : xs.length ≤ 1000000) (hbase : base ≤ w.heap.size) (hn2 : s.size ≤ 1000000)
    (h : ∀ v' w', OwnB w' base v' (xs ++ s.data.toList) → w.grownBy w' v.ownBlock → K (a.put o.dst v') w') : if Region.wanted o (yielded ops a.tmps) = true then Oper.wp Tryz.prog o a w K Q else E := by
  obtain ⟨v', w', hr, h1, h2⟩ := append_bs w base v xs hown hn hbase s hn2 o.type
  exact step_two hgd .append d x #[77, 9] ho v _ hs hx hr (h v' w' h1 h2)
theorem wpList_append_bs {w : World} {ops : Array Oper} {rest : List Oper} {o : Oper} {a : Act} {Q : Exit → Act → World → Prop} (hgd : o.guard = none) (d x : Operand)
    (ho : o.op = .call { callee := .builtin .append, args := #[d, x], argTypes := #[77, 9] }) (base : Nat) (v : Value) (xs : Bs) (s : ByteArray) (hs : a.eval d = v) (hx : a.eval x = .string s)
    (hown : OwnB w base v xs) (hn : xs.length ≤ 1000000) (hbase : base ≤ w.heap.size) (hn2 : s.size ≤ 1000000)
    (h : ∀ v' w', OwnB w' base v' (xs ++ s.data.toList) → w.grownBy w' v.ownBlock → wpList Tryz.prog ops Q rest (a.put o.dst v') w') : wpList Tryz.prog ops Q (o :: rest) a w := by
  obtain ⟨v', w', hr, h1, h2⟩ := append_bs w base v xs hown hn hbase s hn2 o.type
  exact wpList_two hgd .append d x #[77, 9] ho v _ hs hx hr (h v' w' h1 h2)

/-- bytes that lie in a block just made -/
theorem news_lit (w : World) (l : Bs) (j : Nat) (u : Value) (h : (cellsB l)[j]? = some u) : (w.alloc (.cells (cellsB l).toArray 5)).cell? ((⟨w.heap.size, 0, none⟩ : Addr).add j) = some u := by
  rw [Addr.add_lit]
  have := (Blk.new w 5 (cellsB l)).cell (0 + j)
  rw [this, Nat.zero_add]; exact h

theorem conv_own {w : World} {base : Nat} {v : Value} {l : Bs} (h : OwnB w base v l) : (convert 77 9 v).run Tryz.prog w = .ok (.string ⟨l.toArray⟩) w := by
  rcases h.2 with ⟨rfl, hx⟩ | ⟨g, cap, cur, rfl, _, _, _, _⟩
  · have hl : l = [] := List.eq_nil_of_length_eq_zero hx
    subst hl
    exact run_convert_bytes_nil w 77 5 Tryz.underlying77 Tryz.underlying5 0 0 9 Tryz.underlying9
  · have hc := World.ownsRow.cells h (g := g) rfl
    refine run_convert_bytes_back w 77 9 5 _ cap l Tryz.underlying77 Tryz.underlying5 Tryz.underlying9 fun j hj => ?_
    exact hc j _ (by simp [cellsB, hj])

/-- a text's byte -/
theorem letter {n : Nat} (h : n < 16) : ((#[48, 49, 50, 51, 52, 53, 54, 55, 56, 57, 97, 98, 99, 100, 101, 102] : Array UInt8)[n]?) = some (hexd n) := by
  have : ∀ k : Fin 16, ((#[48, 49, 50, 51, 52, 53, 54, 55, 56, 57, 97, 98, 99, 100, 101, 102] : Array UInt8)[k.val]?) = some (hexd k.val) := by decide
  exact this ⟨n, h⟩

end Go.Proofs.YtgplaeopcejmoaaGreatDoor
