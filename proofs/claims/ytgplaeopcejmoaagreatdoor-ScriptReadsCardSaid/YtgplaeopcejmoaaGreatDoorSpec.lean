/- What operations' texts are, in plain words; strings.Join of texts of the call's own. -/
import Derived.Test.YtgplaeopcejmoaaGreatDoorTell
import Derived.Test.YtgplaeopcejmoaaGreatDoorIter
namespace Go.Proofs.YtgplaeopcejmoaaGreatDoor
open Go.RowKit

def opName (k : Int) : ByteArray := if 1 ≤ k then (opNames[(k - 1).toNat]?).getD ⟨#[]⟩ else ⟨#[]⟩
def addF (m f : Int) (x : ByteArray) (l : List ByteArray) : List ByteArray := if hasF m f then l ++ [x] else l
def opWords (o : Opr) (m : Int) : List ByteArray :=
  addF m 32 (ito o.level) (addF m 16 (wtx o.value) (addF m 8 (wtx o.til) (addF m 4 (wtx o.key) (addF m 2 (dec o.lsn) (addF m 1 (dec o.n) [opName o.kind])))))
def joinS (l : List ByteArray) : ByteArray := ⟨(Lib.join (l.map fun x => x.data.toList) [32]).toArray⟩
def opText (o : Opr) : ByteArray := joinS (opWords o ((getI namedL o.kind).getD 0))
def opTextR (o : Opr) : Value := if mayOp o then .tuple #[.string (opText o), .int .i64 0] else .tuple #[.string ⟨#[]⟩, .int .i64 2]

theorem addF_length (m f : Int) (x : ByteArray) (l : List ByteArray) : (addF m f x l).length ≤ l.length + 1 := by
  unfold addF; split <;> simp
theorem lens_app (a b : List Bs) : Lib.lens (a ++ b) = Lib.lens a + Lib.lens b := by simp [Lib.lens]
/-- how much texts hold in all -/
def tot (l : List ByteArray) : Nat := Lib.lens (l.map fun x => x.data.toList)
theorem tot_app (a b : List ByteArray) : tot (a ++ b) = tot a + tot b := by simp [tot, lens_app]
theorem tot_one (x : ByteArray) : tot [x] = x.size := by
  have := bs_length x
  simp only [tot, Lib.lens, List.map_cons, List.map_nil, List.sum_cons, List.sum_nil, Nat.add_zero]
  exact this
theorem addF_tot (m f : Int) (x : ByteArray) (l : List ByteArray) : tot (addF m f x l) ≤ tot l + x.size := by
  unfold addF; split
  · rw [tot_app, tot_one]; omega
  · omega
theorem join_len (l : List ByteArray) (sep : Bs) : (Lib.join (l.map fun x => x.data.toList) sep).length ≤ tot l + sep.length * l.length := by
  cases l with
  | nil => simp [Lib.join_nil]
  | cons a r =>
    rw [List.map_cons, Lib.join_cons, List.length_append, Lib.joinTail_length]
    simp only [tot, Lib.lens, List.map_cons, List.sum_cons, List.length_map, List.length_cons, Nat.mul_succ]
    omega

theorem join_own {base : Nat} {v : Value} {xs : List ByteArray} {w : World} (h : OwnS w base v xs) (hN : xs.length ≤ 1000000) (ht : tot xs ≤ 1000000000) :
    Calls Tryz.prog 56 #[v, .string ⟨#[32]⟩] w fun e w' => e = .returned (.string (joinS xs)) ∧ Below w.heap.size w w' := by
  have hl := join_len xs [32]
  simp only [List.length_cons, List.length_nil] at hl
  rcases h.2 with ⟨rfl, h0⟩ | ⟨g, cap, cur, rfl, _, hg, hcap, _, _, _⟩
  · have : xs = [] := List.eq_nil_of_length_eq_zero h0
    subst this
    exact (Tryz.strings_Join_none none 0 ⟨#[32]⟩ w).mono fun e w' ⟨he, hw⟩ => ⟨he, hw ▸ Below.refl _ _⟩
  · have hc := World.ownsRow.cells h (g := g) rfl
    refine Tryz.strings_Join g 0 cap xs ⟨#[32]⟩ w (fun j x hx => ?_) (Array.getElem?_eq_some_iff.1 hg).1 (by omega) hcap (by show (Lib.join _ [32]).length ≤ _; omega)
    have := hc j (.string x) (by simp [cellsS, hx])
    rw [Addr.add_lit] at this
    exact this
end Go.Proofs.YtgplaeopcejmoaaGreatDoor
