/- How struct arguments read: answers. -/
import Derived.Test.YtgplaeopcejmoaaDoorSeat
import Derived.Test.YtgplaeopcejmoaaDoorAns
import Derived.OpenShut
import Derived.Deep.Slices
namespace Go.Proofs.YtgplaeopcejmoaaDoor
open Go.RowKit Go.WideShapes Go.ChangeShapes

section
variable {H : Type} {enc : TypeId × Value → H} {w : World}

/-- an answer as an argument -/
def ArgAns (w : World) (v : Value) : Prop := ∃ (a : An) (A : Option Addr) (cp : Nat) (ps : List (ByteArray × ByteArray)), v = .agg (anCells a (.slice A ps.length cp)).toArray ∧ AnOk a ∧ PrAt w A ps
theorem wf_i64 {n : Int} (h : (Lit.int .i64 n).wf = true) : -9223372036854775808 ≤ n ∧ n ≤ 9223372036854775807 := by
  simp only [Lit.wf, Bool.and_eq_true, decide_eq_true_eq] at h
  have e1 : IntKind.min .i64 = -9223372036854775808 := by decide
  have e2 : IntKind.max .i64 = 9223372036854775807 := by decide
  rw [e1, e2] at h
  exact h
theorem wf_u64 {n : Int} (h : (Lit.int .u64 n).wf = true) : 0 ≤ n ∧ n < 18446744073709551616 := by
  simp only [Lit.wf, Bool.and_eq_true, decide_eq_true_eq] at h
  have e1 : IntKind.min .u64 = 0 := by decide
  have e2 : IntKind.max .u64 = 18446744073709551615 := by decide
  rw [e1, e2] at h
  omega
/-- a field of one cell -/
theorem struct_field {t : TypeId} {fs : Array Field} {n : Nat} {cs : List Value} {x : DataW H × List MemPlace} (he : Tryd.prog.underlying t = some (.struct fs))
    (ht : DataW.trod enc Tryd.prog w 0 (fun _ => true) true n t cs = some x) (j : Nat) (f : Field) (hj : fs[j]? = some f) (h1 : Tryd.prog.cellsOf f.type = 1) (ho : f.offset < cs.length) :
    ∃ v y n', cs[f.offset]? = some v ∧ DataW.trod enc Tryd.prog w 0 (fun _ => true) true n' f.type [v] = some y := by
  obtain ⟨xs, n', _, _, _, hxl, hf⟩ := DataW.trod_struct he ht
  have h2 := hf j f hj
  have hjl : j < fs.size := (Array.getElem?_eq_some_iff.1 hj).1
  have h3 : (cs.drop f.offset).take (Tryd.prog.cellsOf f.type) = [cs[f.offset]'ho] := by
    rw [h1, List.drop_eq_getElem_cons ho]; rfl
  rw [h3] at h2
  have hx : xs[j]? = some (xs[j]'(by omega)) := List.getElem?_eq_getElem (by omega)
  exact ⟨_, _, n', List.getElem?_eq_getElem ho, h2.trans hx⟩
theorem elem_field {a : Addr} {e : TypeId} {fs : Array Field} {sz n : Nat} {cs : List Value} {x : DataW H × List MemPlace} (he : Tryd.prog.underlying e = some (.struct fs)) (hcs : w.cells? 0 a sz = some cs)
    (ht : DataW.trod enc Tryd.prog w 0 (fun _ => true) true n e cs = some x) (j : Nat) (f : Field) (hj : fs[j]? = some f) (h1 : Tryd.prog.cellsOf f.type = 1) (ho : f.offset < sz) :
    ∃ v y n', w.cell? (a.add f.offset) = some v ∧ DataW.trod enc Tryd.prog w 0 (fun _ => true) true n' f.type [v] = some y := by
  obtain ⟨_, hl, hat⟩ := World.cells?_some hcs
  obtain ⟨v, y, n', hv, hy⟩ := struct_field he ht j f hj h1 (by omega)
  exact ⟨v, y, n', (hat f.offset ho).trans hv, hy⟩
theorem cellsAn : Tryd.prog.cellsOf 32 = 9 := by kernel_rfl
theorem cellsErrno : Tryd.prog.cellsOf 24 = 1 := by kernel_rfl
theorem cellsInt : Tryd.prog.cellsOf 3 = 1 := by kernel_rfl
theorem cellsBool : Tryd.prog.cellsOf 4 = 1 := by kernel_rfl
theorem cellsPair : Tryd.prog.cellsOf 34 = 2 := by kernel_rfl
theorem cellsPairs : Tryd.prog.cellsOf 30 = 1 := by kernel_rfl
theorem addr_none {W : World} {a : Addr} {v : Value} (h : W.cell? (a.add 0) = some v) : ∃ b o, a = ⟨b, o, none⟩ ∧ b < W.heap.size := by
  obtain ⟨b, o, s⟩ := a
  have h' : W.cell? ⟨b, o, s⟩ = some v := by simpa [Addr.add] using h
  have : s = none := by
    cases s with
    | none => rfl
    | some s => unfold World.cell? at h'; split at h' <;> simp at h'
  subst this
  exact ⟨b, o, rfl, World.block_lt_of_cell? W _ h'⟩
theorem list_of {α : Type} {P : Nat → α → Prop} : ∀ n, (∀ i, i < n → ∃ x, P i x) → ∃ l : List α, l.length = n ∧ ∀ i x, l[i]? = some x → P i x
  | 0, _ => ⟨[], rfl, fun i x h => by simp at h⟩
  | n + 1, h => by
    obtain ⟨l, hl, hp⟩ := list_of n (fun i hi => h i (by omega))
    obtain ⟨x, hx⟩ := h n (by omega)
    refine ⟨l ++ [x], by simp [hl], fun i y hy => ?_⟩
    rcases Nat.lt_or_ge i n with hi | hi
    · rw [List.getElem?_append_left (by omega)] at hy
      exact hp i y hy
    · have hlt := (List.getElem?_eq_some_iff.1 hy).1
      simp at hlt
      have : i = n := by omega
      subst this
      rw [List.getElem?_append_right (by omega), hl, Nat.sub_self] at hy
      simp at hy
      subst hy
      exact hx
theorem open_pairs {fuel : Nat} {v : Value} {x : DataW H × List MemPlace} (h : DataW.trod enc Tryd.prog w 0 (fun _ => true) true fuel 30 [v] = some x) :
    ∃ (ps : List (ByteArray × ByteArray)) (A : Option Addr) (cp : Nat), v = .slice A ps.length cp ∧ PrAt w A ps := by
  rcases Deep.open_slice Tryd.underlying30 h with ⟨h0, _⟩ | ⟨a, len, cap, m, k, D, Pl, hcs, _, hl, hm, hmm, _, hi⟩
  · simp only [List.cons.injEq, and_true] at h0
    exact ⟨[], none, 0, h0, fun hx => absurd rfl hx⟩
  · simp only [List.cons.injEq, and_true] at hcs
    simp only [if_true] at hmm
    subst hmm
    have key : ∀ i, i < len → ∃ p : ByteArray × ByteArray, w.cell? ((a.add (i * 2)).add 0) = some (.string p.1) ∧ w.cell? ((a.add (i * 2)).add 1) = some (.string p.2) := by
      intro i hin
      obtain ⟨cs, hc, ht⟩ := hi i (by omega)
      rw [cellsPair] at hc
      obtain ⟨v0, y0, n0, e0, t0⟩ := elem_field Tryd.underlying34 hc ht 0 _ rfl cS (by decide)
      obtain ⟨v1, y1, n1, e1, t1⟩ := elem_field Tryd.underlying34 hc ht 1 _ rfl cS (by decide)
      obtain ⟨s0, hs0, _⟩ := DataW.trod_string Tryd.underlying9 t0
      obtain ⟨s1, hs1, _⟩ := DataW.trod_string Tryd.underlying9 t1
      simp only [List.cons.injEq, and_true] at hs0 hs1
      subst hs0 hs1
      exact ⟨(s0, s1), e0, e1⟩
    obtain ⟨ps, hps, hp⟩ := list_of len key
    refine ⟨ps, some a, _, by rw [hps]; exact hcs, fun hn => ?_⟩
    have hpos : 0 < len := by
      rcases Nat.eq_zero_or_pos len with e | e
      · rw [e] at hps; exact absurd (List.eq_nil_of_length_eq_zero hps) hn
      · exact e
    obtain ⟨p0, h00, _⟩ := key 0 hpos
    obtain ⟨b, o, rfl, hb⟩ := addr_none (W := w) (a := a) (by simpa [Addr.add] using h00)
    refine ⟨b, o, rfl, hb, fun j p hk => ?_⟩
    obtain ⟨h1, h2⟩ := hp j p hk
    simp only [Addr.add_lit] at h1 h2
    exact ⟨h1, h2⟩
theorem open_answer {fuel : Nat} {cs : List Value} {x : DataW H × List MemPlace} (h : DataW.trod enc Tryd.prog w 0 (fun _ => true) true fuel 32 cs = some x) :
    ∃ (a : An) (A : Option Addr) (cp : Nat) (ps : List (ByteArray × ByteArray)), cs = anCells a (.slice A ps.length cp) ∧ AnOk a ∧ PrAt w A ps := by
  obtain ⟨_, _, _, _, hl, _, _⟩ := DataW.trod_struct Tryd.underlying32 h
  rw [cellsAn] at hl
  obtain ⟨v0, y0, n0, e0, t0⟩ := struct_field Tryd.underlying32 h 0 _ rfl cellsErrno (by rw [hl]; decide)
  obtain ⟨v1, y1, n1, e1, t1⟩ := struct_field Tryd.underlying32 h 1 _ rfl cU (by rw [hl]; decide)
  obtain ⟨v2, y2, n2, e2, t2⟩ := struct_field Tryd.underlying32 h 2 _ rfl cellsInt (by rw [hl]; decide)
  obtain ⟨v3, y3, n3, e3, t3⟩ := struct_field Tryd.underlying32 h 3 _ rfl cU (by rw [hl]; decide)
  obtain ⟨v4, y4, n4, e4, t4⟩ := struct_field Tryd.underlying32 h 4 _ rfl cU (by rw [hl]; decide)
  obtain ⟨v5, y5, n5, e5, t5⟩ := struct_field Tryd.underlying32 h 5 _ rfl cU (by rw [hl]; decide)
  obtain ⟨v6, y6, n6, e6, t6⟩ := struct_field Tryd.underlying32 h 6 _ rfl cS (by rw [hl]; decide)
  obtain ⟨v7, y7, n7, e7, t7⟩ := struct_field Tryd.underlying32 h 7 _ rfl cellsBool (by rw [hl]; decide)
  obtain ⟨v8, y8, n8, e8, t8⟩ := struct_field Tryd.underlying32 h 8 _ rfl cellsPairs (by rw [hl]; decide)
  obtain ⟨a0, q0, _, w0⟩ := DataW.trod_int Tryd.underlying24 t0
  obtain ⟨a1, q1, _, w1⟩ := DataW.trod_int Tryd.underlying29 t1
  obtain ⟨a2, q2, _, w2⟩ := DataW.trod_int Tryd.underlying3 t2
  obtain ⟨a3, q3, _, w3⟩ := DataW.trod_int Tryd.underlying29 t3
  obtain ⟨a4, q4, _, w4⟩ := DataW.trod_int Tryd.underlying29 t4
  obtain ⟨a5, q5, _, w5⟩ := DataW.trod_int Tryd.underlying29 t5
  obtain ⟨a6, q6, _, _⟩ := DataW.trod_string Tryd.underlying9 t6
  obtain ⟨a7, q7, _⟩ := DataW.trod_bool Tryd.underlying4 t7
  obtain ⟨ps, A, cp, rfl, hP⟩ := open_pairs t8
  simp only [List.cons.injEq, and_true] at q0 q1 q2 q3 q4 q5 q6 q7
  subst q0 q1 q2 q3 q4 q5 q6 q7
  have w1' := wf_u64 w1; have w3' := wf_u64 w3; have w4' := wf_u64 w4; have w5' := wf_u64 w5
  refine ⟨⟨a0, a1.toNat, a2, a3.toNat, a4.toNat, a5.toNat, a6, a7⟩, A, cp, ps, ?_, ⟨wf_i64 w0, by simp only; omega, wf_i64 w2, by simp only; omega, by simp only; omega⟩, hP⟩
  have z1 : ((a1.toNat : Nat) : Int) = a1 := by omega
  have z3 : ((a3.toNat : Nat) : Int) = a3 := by omega
  have z4 : ((a4.toNat : Nat) : Int) = a4 := by omega
  have z5 : ((a5.toNat : Nat) : Int) = a5 := by omega
  simp only [anCells, z1, z3, z4, z5]
  apply List.ext_getElem?
  intro j
  match j with
  | 0 => exact e0
  | 1 => exact e1
  | 2 => exact e2
  | 3 => exact e3
  | 4 => exact e4
  | 5 => exact e5
  | 6 => exact e6
  | 7 => exact e7
  | 8 => exact e8
  | j + 9 => rw [List.getElem?_eq_none (by omega), List.getElem?_eq_none (by simp)]
end
theorem lawAnsC (w : World) (k o : Int) (v : Value) (_ : -9223372036854775808 ≤ k ∧ k ≤ 9223372036854775807) (_ : -9223372036854775808 ≤ o ∧ o ≤ 9223372036854775807) (z : ArgAns w v) (henv : Env w) : Calls Tryd.prog 4 #[.int .i64 k, .int .i64 o, v] w fun e w' => e = .returned (.bool true) ∧ Below w.heap.size w w' := by
  obtain ⟨⟨code, n, level, lsn, pos, tl, value, yes⟩, A, cp, ps, rfl, ok, hP⟩ := z
  exact lawAns k o code n level lsn pos tl value yes A cp ps ok w henv hP
end Go.Proofs.YtgplaeopcejmoaaDoor
