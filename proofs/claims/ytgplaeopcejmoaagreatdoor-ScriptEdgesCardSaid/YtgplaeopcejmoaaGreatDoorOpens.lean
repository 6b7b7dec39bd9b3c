/- How struct arguments read: operations, acts. -/
import Derived.Test.YtgplaeopcejmoaaGreatDoorSeat
import Derived.Test.YtgplaeopcejmoaaGreatDoorRound
import Derived.OpenShut
import Derived.Deep.Slices
import Derived.Test.YtgplaeopcejmoaaGreatDoorRsame
import Derived.ChangeSlices
namespace Go.Proofs.YtgplaeopcejmoaaGreatDoor
open Go.RowKit Go.WideShapes Go.ChangeShapes

section
variable {H : Type} {enc : TypeId × Value → H} {w : World}

theorem wf_i64 {n : Int} (h : (Lit.int .i64 n).wf = true) : -9223372036854775808 ≤ n ∧ n ≤ 9223372036854775807 := by
  simp only [Lit.wf, Bool.and_eq_true, decide_eq_true_eq] at h
  have e1 : IntKind.min .i64 = -9223372036854775808 := by decide
  have e2 : IntKind.max .i64 = 9223372036854775807 := by decide
  rw [e1, e2] at h
  exact h
theorem wf_u64 {n : Int} (h : (Lit.int .u64 n).wf = true) : 0 ≤ n ∧ n < 18446744073709551616 := by
  simp only [Lit.wf, Bool.and_eq_true, decide_eq_true_eq] at h
  have e1 : IntKind.min .u64 = 0 := by decide
  have e2 : IntKind.max .u64 = 18446744073709551615 := by decide
  rw [e1, e2] at h
  omega
/-- a field of one cell -/
theorem struct_field {t : TypeId} {fs : Array Field} {n : Nat} {cs : List Value} {x : DataW H × List MemPlace} (he : Tryz.prog.underlying t = some (.struct fs))
    (ht : DataW.trod enc Tryz.prog w 0 (fun _ => true) true n t cs = some x) (j : Nat) (f : Field) (hj : fs[j]? = some f) (h1 : Tryz.prog.cellsOf f.type = 1) (ho : f.offset < cs.length) :
    ∃ v y n', cs[f.offset]? = some v ∧ DataW.trod enc Tryz.prog w 0 (fun _ => true) true n' f.type [v] = some y := by
  obtain ⟨xs, n', _, _, _, hxl, hf⟩ := DataW.trod_struct he ht
  have h2 := hf j f hj
  have hjl : j < fs.size := (Array.getElem?_eq_some_iff.1 hj).1
  have h3 : (cs.drop f.offset).take (Tryz.prog.cellsOf f.type) = [cs[f.offset]'ho] := by
    rw [h1, List.drop_eq_getElem_cons ho]; rfl
  rw [h3] at h2
  have hx : xs[j]? = some (xs[j]'(by omega)) := List.getElem?_eq_getElem (by omega)
  exact ⟨_, _, n', List.getElem?_eq_getElem ho, h2.trans hx⟩
theorem cellsOp : Tryz.prog.cellsOf 34 = 7 := by kernel_rfl
theorem cellsOpKind : Tryz.prog.cellsOf 31 = 1 := by kernel_rfl
theorem cellsInt : Tryz.prog.cellsOf 3 = 1 := by kernel_rfl

theorem open_op {fuel : Nat} {cs : List Value} {x : DataW H × List MemPlace} (h : DataW.trod enc Tryz.prog w 0 (fun _ => true) true fuel 34 cs = some x) : ∃ o : Opr, cs = opCells o ∧ OprOk o := by
  obtain ⟨_, _, _, _, hl, _, _⟩ := DataW.trod_struct Tryz.underlying34 h
  rw [cellsOp] at hl
  obtain ⟨v0, y0, n0, e0, t0⟩ := struct_field Tryz.underlying34 h 0 _ rfl cellsOpKind (by rw [hl]; decide)
  obtain ⟨v1, y1, n1, e1, t1⟩ := struct_field Tryz.underlying34 h 1 _ rfl cU (by rw [hl]; decide)
  obtain ⟨v2, y2, n2, e2, t2⟩ := struct_field Tryz.underlying34 h 2 _ rfl cS (by rw [hl]; decide)
  obtain ⟨v3, y3, n3, e3, t3⟩ := struct_field Tryz.underlying34 h 3 _ rfl cS (by rw [hl]; decide)
  obtain ⟨v4, y4, n4, e4, t4⟩ := struct_field Tryz.underlying34 h 4 _ rfl cS (by rw [hl]; decide)
  obtain ⟨v5, y5, n5, e5, t5⟩ := struct_field Tryz.underlying34 h 5 _ rfl cellsInt (by rw [hl]; decide)
  obtain ⟨v6, y6, n6, e6, t6⟩ := struct_field Tryz.underlying34 h 6 _ rfl cU (by rw [hl]; decide)
  obtain ⟨k, hk, _, _⟩ := DataW.trod_int Tryz.underlying31 t0
  obtain ⟨n, hn, _, wn⟩ := DataW.trod_int Tryz.underlying32 t1
  obtain ⟨s2, hs2, _, _⟩ := DataW.trod_string Tryz.underlying9 t2
  obtain ⟨s3, hs3, _, _⟩ := DataW.trod_string Tryz.underlying9 t3
  obtain ⟨s4, hs4, _, _⟩ := DataW.trod_string Tryz.underlying9 t4
  obtain ⟨l, hlv, _, wl⟩ := DataW.trod_int Tryz.underlying3 t5
  obtain ⟨s, hs, _, ws⟩ := DataW.trod_int Tryz.underlying32 t6
  simp only [List.cons.injEq, and_true] at hk hn hs2 hs3 hs4 hlv hs
  subst hk hn hs2 hs3 hs4 hlv hs
  have wn' := wf_u64 wn
  have ws' := wf_u64 ws
  refine ⟨⟨k, n.toNat, s2, s3, s4, l, s.toNat⟩, ?_, ⟨by simp only; omega, by simp only; omega, wf_i64 wl⟩⟩
  have en : ((n.toNat : Nat) : Int) = n := by omega
  have es : ((s.toNat : Nat) : Int) = s := by omega
  simp only [opCells, en, es]
  apply List.ext_getElem?
  intro j
  match j with
  | 0 => exact e0
  | 1 => exact e1
  | 2 => exact e2
  | 3 => exact e3
  | 4 => exact e4
  | 5 => exact e5
  | 6 => exact e6
  | j + 7 =>
    rw [List.getElem?_eq_none (by omega), List.getElem?_eq_none (by simp)]
end
section
variable {H : Type} {enc : TypeId × Value → H} {w : World}

/-- an act as an argument -/
def ArgAct (w : World) (v : Value) : Prop := ∃ (a : Ar) (pa : Option Addr) (pc : Nat), v = .agg (actCells a (.slice pa a.picks.length pc)).toArray ∧ ActOk a ∧ PkAt w pa a.picks
/-- a field of any size -/
theorem struct_part {t : TypeId} {fs : Array Field} {n : Nat} {cs : List Value} {x : DataW H × List MemPlace} (he : Tryz.prog.underlying t = some (.struct fs))
    (ht : DataW.trod enc Tryz.prog w 0 (fun _ => true) true n t cs = some x) (j : Nat) (f : Field) (hj : fs[j]? = some f) (c : Nat) (h1 : Tryz.prog.cellsOf f.type = c) :
    ∃ y n', DataW.trod enc Tryz.prog w 0 (fun _ => true) true n' f.type ((cs.drop f.offset).take c) = some y := by
  obtain ⟨xs, n', _, _, _, hxl, hf⟩ := DataW.trod_struct he ht
  have h2 := hf j f hj
  have hjl : j < fs.size := (Array.getElem?_eq_some_iff.1 hj).1
  rw [h1] at h2
  have hx : xs[j]? = some (xs[j]'(by omega)) := List.getElem?_eq_getElem (by omega)
  exact ⟨_, n', h2.trans hx⟩
theorem cellsAct : Tryz.prog.cellsOf 39 = 12 := by kernel_rfl
theorem cellsActKind : Tryz.prog.cellsOf 36 = 1 := by kernel_rfl
theorem cellsInts : Tryz.prog.cellsOf 37 = 1 := by kernel_rfl
theorem addr_none {W : World} {a : Addr} {v : Value} (h : W.cell? (a.add 0) = some v) : ∃ b o, a = ⟨b, o, none⟩ ∧ b < W.heap.size := by
  obtain ⟨b, o, s⟩ := a
  have h' : W.cell? ⟨b, o, s⟩ = some v := by simpa [Addr.add] using h
  have : s = none := by
    cases s with
    | none => rfl
    | some s => unfold World.cell? at h'; split at h' <;> simp at h'
  subst this
  exact ⟨b, o, rfl, World.block_lt_of_cell? W _ h'⟩
theorem open_picks {fuel : Nat} {v : Value} {x : DataW H × List MemPlace} (h : DataW.trod enc Tryz.prog w 0 (fun _ => true) true fuel 37 [v] = some x) :
    ∃ (l : List Int) (pa : Option Addr) (pc : Nat), v = .slice pa l.length pc ∧ PkAt w pa l ∧ ∀ n ∈ l, -9223372036854775808 ≤ n ∧ n ≤ 9223372036854775807 := by
  rcases open_ints Tryz.underlying37 Tryz.underlying3 cellsInt h with ⟨h0, _⟩ | ⟨a, len, cap, zs, hcs, _, hl, _, hz, _, hc, hw⟩
  · simp only [List.cons.injEq, and_true] at h0
    exact ⟨[], none, 0, h0, PkAt.nil _ _, fun n hn => by cases hn⟩
  · simp only [List.cons.injEq, and_true] at hcs
    simp only [if_true] at hz
    have hlen : (zs.take len).length = len := by rw [List.length_take]; omega
    refine ⟨zs.take len, some a, cap, by rw [hlen]; exact hcs, fun hne => ?_, fun n hn => wf_i64 (hw n (List.mem_of_mem_take hn))⟩
    have hpos : 0 < len := by
      rcases Nat.eq_zero_or_pos len with e | e
      · rw [e] at hne; simp at hne
      · exact e
    obtain ⟨b, o, rfl, hb⟩ := addr_none (hc 0 (by omega))
    refine ⟨b, o, rfl, hb, fun j y hy => ?_⟩
    rw [List.getElem?_take] at hy
    split at hy
    · rename_i hj
      have h1 := hc j (by omega)
      rw [Addr.add_lit] at h1
      rw [h1, List.getD_eq_getElem?_getD, hy]; rfl
    · cases hy

theorem open_act {fuel : Nat} {cs : List Value} {x : DataW H × List MemPlace} (h : DataW.trod enc Tryz.prog w 0 (fun _ => true) true fuel 39 cs = some x) :
    ∃ (a : Ar) (pa : Option Addr) (pc : Nat), cs = actCells a (.slice pa a.picks.length pc) ∧ ActOk a ∧ PkAt w pa a.picks := by
  obtain ⟨_, _, _, _, hl, _, _⟩ := DataW.trod_struct Tryz.underlying39 h
  rw [cellsAct] at hl
  obtain ⟨v0, y0, n0, e0, t0⟩ := struct_field Tryz.underlying39 h 0 _ rfl cellsActKind (by rw [hl]; decide)
  obtain ⟨v1, y1, n1, e1, t1⟩ := struct_field Tryz.underlying39 h 1 _ rfl cellsInt (by rw [hl]; decide)
  obtain ⟨v2, y2, n2, e2, t2⟩ := struct_field Tryz.underlying39 h 2 _ rfl cellsInt (by rw [hl]; decide)
  obtain ⟨v3, y3, n3, e3, t3⟩ := struct_field Tryz.underlying39 h 3 _ rfl cellsInt (by rw [hl]; decide)
  obtain ⟨y4, n4, t4⟩ := struct_part Tryz.underlying39 h 4 _ rfl 7 cellsOp
  obtain ⟨v5, y5, n5, e5, t5⟩ := struct_field Tryz.underlying39 h 5 _ rfl cellsInts (by rw [hl]; decide)
  obtain ⟨k, hk, _, _⟩ := DataW.trod_int Tryz.underlying36 t0
  obtain ⟨a1, ha1, _, wa1⟩ := DataW.trod_int Tryz.underlying3 t1
  obtain ⟨a2, ha2, _, wa2⟩ := DataW.trod_int Tryz.underlying3 t2
  obtain ⟨a3, ha3, _, wa3⟩ := DataW.trod_int Tryz.underlying3 t3
  obtain ⟨o, ho, ok⟩ := open_op t4
  obtain ⟨l, pa, pc, rfl, hP, hr⟩ := open_picks t5
  simp only [List.cons.injEq, and_true] at hk ha1 ha2 ha3
  subst hk ha1 ha2 ha3
  refine ⟨⟨k, a1, a2, a3, o, l⟩, pa, pc, ?_, ⟨wf_i64 wa1, wf_i64 wa2, wf_i64 wa3, hr, ok.n, ok.lsn, ok.level⟩, hP⟩
  have ho' : (cs.drop 4).take 7 = opCells o := ho
  have hg : ∀ j, j < 7 → cs[4 + j]? = (opCells o)[j]? := fun j hj => by
    rw [← ho', List.getElem?_take, if_pos hj, List.getElem?_drop]
  apply List.ext_getElem?
  intro j
  match j with
  | 0 => exact e0
  | 1 => exact e1
  | 2 => exact e2
  | 3 => exact e3
  | 4 => exact hg 0 (by decide)
  | 5 => exact hg 1 (by decide)
  | 6 => exact hg 2 (by decide)
  | 7 => exact hg 3 (by decide)
  | 8 => exact hg 4 (by decide)
  | 9 => exact hg 5 (by decide)
  | 10 => exact hg 6 (by decide)
  | 11 => exact e5
  | j + 12 =>
    rw [List.getElem?_eq_none (by omega), List.getElem?_eq_none (by simp [actCells])]
end
end Go.Proofs.YtgplaeopcejmoaaGreatDoor
