/- How the law's argument reads: paths in memory as lists. -/
import Derived.Test.YtnjmdljnmnpecaaGreatDoorGrt
import Derived.ProofKit
import Derived.OpenShut
import Derived.Deep.Slices
namespace Go.Proofs.YtnjmdljnmnpecaaGreatDoor
open Go.RowKit Go.WideShapes Go.ChangeShapes

section
variable {H : Type} {enc : TypeId × Value → H} {P : Program} {w : World}

theorem elem_field {a : Addr} {e : TypeId} {fs : Array Field} {sz n : Nat} {cs : List Value} {x : DataW H × List MemPlace} (he : P.underlying e = some (.struct fs)) (hcs : w.cells? 0 a sz = some cs)
    (ht : DataW.trod enc P w 0 (fun _ => true) true n e cs = some x) (j : Nat) (f : Field) (hj : fs[j]? = some f) (h1 : P.cellsOf f.type = 1) (ho : f.offset < sz) :
    ∃ v y n', w.cell? (a.add f.offset) = some v ∧ DataW.trod enc P w 0 (fun _ => true) true n' f.type [v] = some y := by
  obtain ⟨_, hl, hat⟩ := World.cells?_some hcs
  obtain ⟨xs, n', _, _, _, hxl, hf⟩ := DataW.trod_struct he ht
  have h2 := hf j f hj
  have hjl : j < fs.size := (Array.getElem?_eq_some_iff.1 hj).1
  have hv : cs[f.offset]? = some (cs[f.offset]'(by omega)) := List.getElem?_eq_getElem (by omega)
  have h3 : (cs.drop f.offset).take (P.cellsOf f.type) = [cs[f.offset]'(by omega)] := by
    rw [h1, List.drop_eq_getElem_cons (by omega)]; rfl
  rw [h3] at h2
  have hx : xs[j]? = some (xs[j]'(by omega)) := List.getElem?_eq_getElem (by omega)
  exact ⟨_, _, n', (hat f.offset ho).trans hv, h2.trans hx⟩
end

theorem exists_list {α : Type} {P : Nat → α → Prop} : ∀ n, (∀ i, i < n → ∃ x, P i x) → ∃ l : List α, l.length = n ∧ ∀ i x, l[i]? = some x → P i x
  | 0, _ => ⟨[], rfl, fun i x h => by simp at h⟩
  | n + 1, h => by
    obtain ⟨l, hl, hp⟩ := exists_list n (fun i hi => h i (by omega))
    obtain ⟨x, hx⟩ := h n (by omega)
    refine ⟨l ++ [x], by simp [hl], fun i y hy => ?_⟩
    rcases Nat.lt_or_ge i n with hi | hi
    · rw [List.getElem?_append_left (by omega)] at hy
      exact hp i y hy
    · have hlt := (List.getElem?_eq_some_iff.1 hy).1
      simp at hlt
      have : i = n := by omega
      subst this
      rw [List.getElem?_append_right (by omega), hl, Nat.sub_self] at hy
      simp at hy
      subst hy
      exact hx

theorem add_none {w : World} {a : Addr} {v : Value} (h : w.cell? (a.add 0) = some v) : ∃ b o, a = ⟨b, o, none⟩ ∧ b < w.heap.size := by
  obtain ⟨b, o, sp⟩ := a
  have h' : w.cell? ⟨b, o, sp⟩ = some v := by simpa [Addr.add] using h
  have : sp = none := by
    cases sp with
    | none => rfl
    | some s => unfold World.cell? at h'; split at h' <;> simp at h'
  subst this
  exact ⟨b, o, rfl, World.block_lt_of_cell? w _ h'⟩

theorem cellsFork : Tryz.prog.cellsOf 27 = 2 := by kernel_rfl
theorem cellsU64 : Tryz.prog.cellsOf 24 = 1 := by kernel_rfl
theorem cellsPath : Tryz.prog.cellsOf 25 = 1 := by kernel_rfl
section
variable {H : Type} {enc : TypeId × Value → H} {w : World}
theorem open_forks {A : Option Addr} {n c fuel : Nat} {x : DataW H × List MemPlace} (h : DataW.trod enc Tryz.prog w 0 (fun _ => true) true fuel 25 [.slice A n c] = some x) :
    ∃ l, Fb w w.heap.size A n l ∧ n ≤ c ∧ c ≤ maxLen := by
  rcases Deep.open_slice Tryz.underlying25 h with ⟨h0, _⟩ | ⟨a, len, cap, m, k, D, Pl, hcs, _, hl, hm, hmm, _, hi⟩
  · simp at h0
    obtain ⟨rfl, rfl, rfl⟩ := h0
    exact ⟨[], ⟨rfl, by omega, fun hx => by omega⟩, by omega, by simp⟩
  · simp at hcs
    obtain ⟨rfl, rfl, rfl⟩ := hcs
    simp only [if_true] at hmm
    subst hmm
    have key : ∀ i, i < n → ∃ p : Int × Int, w.cell? ((a.add (i * 2)).add 0) = some (.int .u64 p.1) ∧ w.cell? ((a.add (i * 2)).add 1) = some (.int .u64 p.2) := by
      intro i hin
      obtain ⟨cs, hc, ht⟩ := hi i (by omega)
      rw [cellsFork] at hc
      obtain ⟨v0, y0, n0, e0, t0⟩ := elem_field Tryz.underlying27 hc ht 0 _ rfl cellsU64 (by decide)
      obtain ⟨v1, y1, n1, e1, t1⟩ := elem_field Tryz.underlying27 hc ht 1 _ rfl cellsU64 (by decide)
      obtain ⟨i0, hs0, _⟩ := DataW.trod_int Tryz.underlying24 t0
      obtain ⟨i1, hs1, _⟩ := DataW.trod_int Tryz.underlying24 t1
      simp at hs0 hs1
      subst hs0 hs1
      exact ⟨(i0, i1), e0, e1⟩
    obtain ⟨ps, hps, hp⟩ := exists_list n key
    refine ⟨ps, ⟨hps, by unfold maxLen at hm; omega, fun hn => ?_⟩, hl, hm⟩
    obtain ⟨p0, h00, _⟩ := key 0 hn
    obtain ⟨b, o, rfl, hb⟩ := add_none (w := w) (a := a) (by simpa [Addr.add] using h00)
    refine ⟨b, o, rfl, hb, fun k p hk => ?_⟩
    obtain ⟨h1, h2⟩ := hp k p hk
    simp only [Addr.add_lit] at h1 h2
    exact ⟨h1, h2⟩
theorem open_paths {A : Option Addr} {n c fuel : Nat} {x : DataW H × List MemPlace} (h : DataW.trod enc Tryz.prog w 0 (fun _ => true) true fuel 22 [.slice A n c] = some x) :
    ∃ ps, Pb w w.heap.size A n ps ∧ n ≤ c ∧ c ≤ maxLen := by
  rcases Deep.open_slice Tryz.underlying22 h with ⟨h0, _⟩ | ⟨a, len, cap, m, k, D, Pl, hcs, _, hl, hm, hmm, _, hi⟩
  · simp at h0
    obtain ⟨rfl, rfl, rfl⟩ := h0
    exact ⟨[], ⟨rfl, by omega, fun hx => by omega⟩, by omega, by simp⟩
  · simp at hcs
    obtain ⟨rfl, rfl, rfl⟩ := hcs
    simp only [if_true] at hmm
    subst hmm
    have key : ∀ i, i < n → ∃ p : Pa, w.cell? ((a.add i).add 0) = some (.slice p.A p.n p.c) ∧ Fb w w.heap.size p.A p.n p.l := by
      intro i hin
      obtain ⟨cs, hc, ht⟩ := hi i (by omega)
      rw [cellsPath, Nat.mul_one] at hc
      obtain ⟨_, hlen, hat⟩ := World.cells?_some hc
      obtain ⟨v, rfl⟩ : ∃ v, cs = [v] := by
        match cs, hlen with
        | [v], _ => exact ⟨v, rfl⟩
      have hv := hat 0 (by decide)
      have hs8 : ∃ A8 n8 c8, v = .slice A8 n8 c8 := by
        rcases Deep.open_slice Tryz.underlying25 ht with ⟨h0, _⟩ | ⟨a, len, cap, m, k, D, Pl, hcs, _⟩
        · simp at h0; exact ⟨_, _, _, h0⟩
        · simp at hcs; exact ⟨_, _, _, hcs⟩
      obtain ⟨A8, n8, c8, rfl⟩ := hs8
      obtain ⟨l, hfb, _, _⟩ := open_forks ht
      exact ⟨⟨A8, n8, c8, l⟩, by simpa using hv, hfb⟩
    obtain ⟨ps, hps, hp⟩ := exists_list n key
    refine ⟨ps, ⟨hps, by unfold maxLen at hm; omega, fun hn => ?_⟩, hl, hm⟩
    obtain ⟨p0, h00, _⟩ := key 0 hn
    obtain ⟨b, o, rfl, hb⟩ := add_none (w := w) (a := a) (by simpa [Addr.add] using h00)
    refine ⟨b, o, rfl, hb, fun k p hk => ?_⟩
    obtain ⟨h1, h2⟩ := hp k p hk
    simp only [Addr.add_lit, Nat.add_zero] at h1
    exact ⟨h1, h2⟩
end
end Go.Proofs.YtnjmdljnmnpecaaGreatDoor
