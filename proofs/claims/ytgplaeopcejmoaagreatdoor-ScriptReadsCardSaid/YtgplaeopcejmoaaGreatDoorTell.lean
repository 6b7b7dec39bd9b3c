/- Words of the call's own (a row of texts), and OpText's closure. -/
import Derived.Test.YtgplaeopcejmoaaGreatDoorMayop
namespace Go.Proofs.YtgplaeopcejmoaaGreatDoor
open Go.RowKit

theorem infoStr : (Tryz.prog.info? 9).map (fun i => (i.zero, i.size, i.bytes)) = some (some (.string ⟨#[]⟩), 1, 16) := by kernel_rfl
/-- the cells of texts -/
def cellsS (l : List ByteArray) : List Value := l.map .string
theorem cellsS_append (a b : List ByteArray) : cellsS (a ++ b) = cellsS a ++ cellsS b := by simp [cellsS]
theorem cellsS_one (l : List ByteArray) : ∀ u ∈ cellsS l, u.oneCell' = true := by
  intro u hu
  obtain ⟨b, _, rfl⟩ := List.mem_map.1 hu
  rfl
def OwnS (w : World) (base : Nat) (v : Value) (l : List ByteArray) : Prop := w.ownsRow base 9 1 v l.length (cellsS l)
theorem OwnS.nil (w : World) (base : Nat) : OwnS w base (.slice none 0 0) [] := World.ownsRow_nil _ _ _ _
theorem OwnS.below {w w' : World} {base : Nat} {v : Value} {l : List ByteArray} (h : OwnS w base v l) (hb : Below w.heap.size w w') : OwnS w' base v l := own_below h hb

theorem append_s (w : World) (base : Nat) (v : Value) (xs : List ByteArray) (hown : OwnS w base v xs) (hn : xs.length ≤ 100000) (hbase : base ≤ w.heap.size) (ad : Addr) (m c : Nat) (news : List ByteArray) (hm : m = news.length) (hn2 : m ≤ 100000)
    (hnews : ∀ j u, (cellsS news)[j]? = some u → w.cell? (ad.add j) = some u) (ty : TypeId) :
    ∃ v' w', (∀ cs, (builtin .append #[48, 48] ty cs #[v, .slice (some ad) m c]).run Tryz.prog w = .ok (.value v') w') ∧ OwnS w' base v' (xs ++ news) ∧ w.grownBy w' v.ownBlock := by
  subst hm
  obtain ⟨i0, hi0, hz0, hz1, hz2⟩ := info_parts infoStr
  obtain ⟨v', w', hr, h1, h2, _⟩ := run_append_own (P := Tryz.prog) w base 48 ty 9 i0 _ 1 16 Tryz.underlying48 hi0 hz0 hz1 hz2 rfl (by omega) v xs.length (cellsS xs) hown ad news.length c (cellsS news) (by simp [cellsS]) hnews (cellsS_one _) (by unfold maxLen; omega) (by omega) hbase
  refine ⟨v', w', fun _ => by simp only [builtin, Sem.run_bind, hr, Result.andThen_ok, Sem.run_pure], ?_, h2⟩
  unfold OwnS
  rw [List.length_append, cellsS_append]
  exact h1
end Go.Proofs.YtgplaeopcejmoaaGreatDoor
