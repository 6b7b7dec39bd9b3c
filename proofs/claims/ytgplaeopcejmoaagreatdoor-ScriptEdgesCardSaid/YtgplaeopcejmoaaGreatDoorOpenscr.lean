/- How struct arguments read: scripts. -/
import Derived.Test.YtgplaeopcejmoaaGreatDoorOpens
import Derived.Test.YtgplaeopcejmoaaGreatDoorBound
namespace Go.Proofs.YtgplaeopcejmoaaGreatDoor
open Go.RowKit Go.WideShapes Go.ChangeShapes

/-- a script as an argument -/
def ArgScr (w : World) (v : Value) : Prop := ∃ (s : Scr) (pa : Option Addr) (pc : Nat), v = .agg (scrCells s (.slice pa s.acts.length pc)).toArray ∧ ScrOk s ∧ ActsAt w pa s.acts
theorem list_of {α : Type} {P : Nat → α → Prop} : ∀ n, (∀ i, i < n → ∃ x, P i x) → ∃ l : List α, l.length = n ∧ ∀ i x, l[i]? = some x → P i x
  | 0, _ => ⟨[], rfl, fun i x h => by simp at h⟩
  | n + 1, h => by
    obtain ⟨l, hl, hp⟩ := list_of n (fun i hi => h i (by omega))
    obtain ⟨x, hx⟩ := h n (by omega)
    refine ⟨l ++ [x], by simp [hl], fun i y hy => ?_⟩
    rcases Nat.lt_or_ge i n with hi | hi
    · rw [List.getElem?_append_left (by omega)] at hy
      exact hp i y hy
    · have hlt := (List.getElem?_eq_some_iff.1 hy).1
      simp at hlt
      have : i = n := by omega
      subst this
      rw [List.getElem?_append_right (by omega), hl, Nat.sub_self] at hy
      simp at hy
      subst hy
      exact hx
section
variable {H : Type} {enc : TypeId × Value → H} {w : World}
theorem cellsSetup : Tryz.prog.cellsOf 60 = 5 := by kernel_rfl
theorem cellsScr : Tryz.prog.cellsOf 63 = 6 := by kernel_rfl
theorem cellsActs : Tryz.prog.cellsOf 61 = 1 := by kernel_rfl
theorem open_acts {fuel : Nat} {v : Value} {x : DataW H × List MemPlace} (h : DataW.trod enc Tryz.prog w 0 (fun _ => true) true fuel 61 [v] = some x) :
    ∃ (l : List Ar) (pa : Option Addr) (pc : Nat), v = .slice pa l.length pc ∧ l.length ≤ pc ∧ ActsAt w pa l ∧ ∀ a ∈ l, ActOk a := by
  rcases Deep.open_slice Tryz.underlying61 h with ⟨h0, _⟩ | ⟨a, len, cap, m, k, D, Pl, hcs, _, hl, hm, hmm, _, hi⟩
  · simp only [List.cons.injEq, and_true] at h0
    exact ⟨[], none, 0, h0, Nat.le_refl _, ActsAt.nil _ _, fun a ha => by cases ha⟩
  · simp only [List.cons.injEq, and_true] at hcs
    simp only [if_true] at hmm
    subst hmm
    have key : ∀ i, i < len → ∃ q : Ar, ActOk q ∧ ∃ pa pc, (∀ j u, (actCells q (.slice pa q.picks.length pc))[j]? = some u → w.cell? ((a.add (i * 12)).add j) = some u) ∧ PkAt w pa q.picks := by
      intro i hin
      obtain ⟨cs, hc, ht⟩ := hi i (by omega)
      rw [cellsAct] at hc
      obtain ⟨_, hlen, hat⟩ := World.cells?_some hc
      obtain ⟨q, pa, pc, e, ok, hp⟩ := open_act ht
      refine ⟨q, ok, pa, pc, fun j u hu => ?_, hp⟩
      rw [← e] at hu
      rw [hat j (by have := (List.getElem?_eq_some_iff.1 hu).1; omega)]
      exact hu
    obtain ⟨l, hll, hp⟩ := list_of len key
    refine ⟨l, some a, _, by rw [hll]; exact hcs, by omega, fun hn => ?_, fun q hq => ?_⟩
    · have hpos : 0 < len := by
        rcases Nat.eq_zero_or_pos len with e | e
        · rw [e] at hll; exact absurd (List.eq_nil_of_length_eq_zero hll) hn
        · exact e
      obtain ⟨q0, _, pa0, pc0, h00, _⟩ := key 0 hpos
      have h1 := h00 0 _ rfl
      obtain ⟨b, o, rfl, hb⟩ := addr_none (W := w) (a := a) (by simpa [Addr.add] using h1)
      refine ⟨b, o, rfl, hb, fun j q hk => ?_⟩
      obtain ⟨_, pa, pc, h2, h3⟩ := hp j q hk
      refine ⟨pa, pc, fun i u hu => ?_, h3⟩
      have h4 := h2 i u hu
      simp only [Addr.add_lit] at h4
      exact h4
    · obtain ⟨j, hj, rfl⟩ := List.mem_iff_getElem.1 hq
      exact (hp j _ (List.getElem?_eq_getElem hj)).1
theorem open_setup {fuel : Nat} {cs : List Value} {x : DataW H × List MemPlace} (h : DataW.trod enc Tryz.prog w 0 (fun _ => true) true fuel 60 cs = some x) : ∃ s : Sup, cs = supCells s ∧ ∀ i, IntOk (setNs s i) := by
  obtain ⟨_, _, _, _, hl, _, _⟩ := DataW.trod_struct Tryz.underlying60 h
  rw [cellsSetup] at hl
  obtain ⟨v0, y0, n0, e0, t0⟩ := struct_field Tryz.underlying60 h 0 _ rfl cellsInt (by rw [hl]; decide)
  obtain ⟨v1, y1, n1, e1, t1⟩ := struct_field Tryz.underlying60 h 1 _ rfl cellsInt (by rw [hl]; decide)
  obtain ⟨v2, y2, n2, e2, t2⟩ := struct_field Tryz.underlying60 h 2 _ rfl cellsInt (by rw [hl]; decide)
  obtain ⟨v3, y3, n3, e3, t3⟩ := struct_field Tryz.underlying60 h 3 _ rfl cellsInt (by rw [hl]; decide)
  obtain ⟨v4, y4, n4, e4, t4⟩ := struct_field Tryz.underlying60 h 4 _ rfl cellsInt (by rw [hl]; decide)
  obtain ⟨a0, q0, _, w0⟩ := DataW.trod_int Tryz.underlying3 t0
  obtain ⟨a1, q1, _, w1⟩ := DataW.trod_int Tryz.underlying3 t1
  obtain ⟨a2, q2, _, w2⟩ := DataW.trod_int Tryz.underlying3 t2
  obtain ⟨a3, q3, _, w3⟩ := DataW.trod_int Tryz.underlying3 t3
  obtain ⟨a4, q4, _, w4⟩ := DataW.trod_int Tryz.underlying3 t4
  simp only [List.cons.injEq, and_true] at q0 q1 q2 q3 q4
  subst q0 q1 q2 q3 q4
  refine ⟨⟨a0, a1, a2, a3, a4⟩, ?_, fun i => ?_⟩
  · apply List.ext_getElem?
    intro j
    match j with
    | 0 => exact e0
    | 1 => exact e1
    | 2 => exact e2
    | 3 => exact e3
    | 4 => exact e4
    | j + 5 => rw [List.getElem?_eq_none (by omega), List.getElem?_eq_none (by simp [supCells])]
  · unfold setNs
    split
    · exact wf_i64 w0
    · exact wf_i64 w1
    · exact wf_i64 w2
    · exact wf_i64 w3
    · exact wf_i64 w4
theorem open_scriptc {fuel : Nat} {cs : List Value} {x : DataW H × List MemPlace} (h : DataW.trod enc Tryz.prog w 0 (fun _ => true) true fuel 63 cs = some x) :
    ∃ (s : Scr) (pa : Option Addr) (pc : Nat), cs = scrCells s (.slice pa s.acts.length pc) ∧ ScrOk s ∧ ActsAt w pa s.acts ∧ s.acts.length ≤ pc := by
  obtain ⟨_, _, _, _, hl, _, _⟩ := DataW.trod_struct Tryz.underlying63 h
  rw [cellsScr] at hl
  obtain ⟨y0, n0, t0⟩ := struct_part Tryz.underlying63 h 0 _ rfl 5 cellsSetup
  obtain ⟨v1, y1, n1, e1, t1⟩ := struct_field Tryz.underlying63 h 1 _ rfl cellsActs (by rw [hl]; decide)
  obtain ⟨p, hp, okp⟩ := open_setup t0
  obtain ⟨l, pa, pc, rfl, hlc, hA, okl⟩ := open_acts t1
  refine ⟨⟨p, l⟩, pa, pc, ?_, ⟨okp, okl⟩, hA, hlc⟩
  have hp' : (cs.drop 0).take 5 = supCells p := hp
  have hg : ∀ j, j < 5 → cs[j]? = (supCells p)[j]? := fun j hj => by
    rw [← hp', List.getElem?_take, if_pos hj, List.drop_zero]
  apply List.ext_getElem?
  intro j
  match j with
  | 0 => exact hg 0 (by decide)
  | 1 => exact hg 1 (by decide)
  | 2 => exact hg 2 (by decide)
  | 3 => exact hg 3 (by decide)
  | 4 => exact hg 4 (by decide)
  | 5 => exact e1
  | j + 6 => rw [List.getElem?_eq_none (by omega), List.getElem?_eq_none (by simp [scrCells])]
theorem open_script {fuel : Nat} {cs : List Value} {x : DataW H × List MemPlace} (h : DataW.trod enc Tryz.prog w 0 (fun _ => true) true fuel 63 cs = some x) :
    ∃ (s : Scr) (pa : Option Addr) (pc : Nat), cs = scrCells s (.slice pa s.acts.length pc) ∧ ScrOk s ∧ ActsAt w pa s.acts := by
  obtain ⟨s, pa, pc, h1, h2, h3, _⟩ := open_scriptc h
  exact ⟨s, pa, pc, h1, h2, h3⟩
end
/-- a script as an argument, whose acts have their room -/
def ArgScrC (w : World) (v : Value) : Prop := ∃ (s : Scr) (pa : Option Addr) (pc : Nat), v = .agg (scrCells s (.slice pa s.acts.length pc)).toArray ∧ ScrOk s ∧ ActsAt w pa s.acts ∧ s.acts.length ≤ pc
end Go.Proofs.YtgplaeopcejmoaaGreatDoor
