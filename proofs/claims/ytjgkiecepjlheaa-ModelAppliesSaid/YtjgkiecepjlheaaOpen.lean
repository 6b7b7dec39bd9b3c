/- How the arguments read: commits, writes and pairs in memory as lists. -/
import Derived.Test.YtjgkiecepjlheaaTab
import Derived.ProofKit
import Derived.OpenShut
import Derived.Deep.Slices
namespace Go.Proofs.Ytjgkiecepjlheaa
open Go.RowKit Go.WideShapes Go.ChangeShapes

section
variable {H : Type} {enc : TypeId × Value → H} {P : Program} {w : World}

theorem elem_field {a : Addr} {e : TypeId} {fs : Array Field} {sz n : Nat} {cs : List Value} {x : DataW H × List MemPlace} (he : P.underlying e = some (.struct fs)) (hcs : w.cells? 0 a sz = some cs)
    (ht : DataW.trod enc P w 0 (fun _ => true) true n e cs = some x) (j : Nat) (f : Field) (hj : fs[j]? = some f) (h1 : P.cellsOf f.type = 1) (ho : f.offset < sz) :
    ∃ v y n', w.cell? (a.add f.offset) = some v ∧ DataW.trod enc P w 0 (fun _ => true) true n' f.type [v] = some y := by
  obtain ⟨_, hl, hat⟩ := World.cells?_some hcs
  obtain ⟨xs, n', _, _, _, hxl, hf⟩ := DataW.trod_struct he ht
  have h2 := hf j f hj
  have hjl : j < fs.size := (Array.getElem?_eq_some_iff.1 hj).1
  have hv : cs[f.offset]? = some (cs[f.offset]'(by omega)) := List.getElem?_eq_getElem (by omega)
  have h3 : (cs.drop f.offset).take (P.cellsOf f.type) = [cs[f.offset]'(by omega)] := by
    rw [h1, List.drop_eq_getElem_cons (by omega)]; rfl
  rw [h3] at h2
  have hx : xs[j]? = some (xs[j]'(by omega)) := List.getElem?_eq_getElem (by omega)
  exact ⟨_, _, n', (hat f.offset ho).trans hv, h2.trans hx⟩
end

theorem exists_list {α : Type} {P : Nat → α → Prop} : ∀ n, (∀ i, i < n → ∃ x, P i x) → ∃ l : List α, l.length = n ∧ ∀ i x, l[i]? = some x → P i x
  | 0, _ => ⟨[], rfl, fun i x h => by simp at h⟩
  | n + 1, h => by
    obtain ⟨l, hl, hp⟩ := exists_list n (fun i hi => h i (by omega))
    obtain ⟨x, hx⟩ := h n (by omega)
    refine ⟨l ++ [x], by simp [hl], fun i y hy => ?_⟩
    rcases Nat.lt_or_ge i n with hi | hi
    · rw [List.getElem?_append_left (by omega)] at hy
      exact hp i y hy
    · have hlt := (List.getElem?_eq_some_iff.1 hy).1
      simp at hlt
      have : i = n := by omega
      subst this
      rw [List.getElem?_append_right (by omega), hl, Nat.sub_self] at hy
      simp at hy
      subst hy
      exact hx

theorem add_none {w : World} {a : Addr} {v : Value} (h : w.cell? (a.add 0) = some v) : ∃ b o, a = ⟨b, o, none⟩ ∧ b < w.heap.size := by
  obtain ⟨b, o, sp⟩ := a
  have h' : w.cell? ⟨b, o, sp⟩ = some v := by simpa [Addr.add] using h
  have : sp = none := by
    cases sp with
    | none => rfl
    | some s => unfold World.cell? at h'; split at h' <;> simp at h'
  subst this
  exact ⟨b, o, rfl, World.block_lt_of_cell? w _ h'⟩

theorem cells33 : Try.prog.cellsOf 33 = 9 := by kernel_rfl
theorem cells43 : Try.prog.cellsOf 43 = 3 := by kernel_rfl
theorem cells40 : Try.prog.cellsOf 40 = 2 := by kernel_rfl
theorem cells30 : Try.prog.cellsOf 30 = 1 := by kernel_rfl
theorem cells3 : Try.prog.cellsOf 3 = 1 := by kernel_rfl
theorem cells4 : Try.prog.cellsOf 4 = 1 := by kernel_rfl
theorem cells9 : Try.prog.cellsOf 9 = 1 := by kernel_rfl
theorem cells31 : Try.prog.cellsOf 31 = 1 := by kernel_rfl

section
variable {H : Type} {enc : TypeId × Value → H} {w : World}

theorem open_pairs {A : Option Addr} {n c fuel : Nat} {x : DataW H × List MemPlace} (h : DataW.trod enc Try.prog w 0 (fun _ => true) true fuel 23 [.slice A n c] = some x) :
    ∃ ps, Tb w w.heap.size A n ps ∧ n ≤ c ∧ c ≤ maxLen := by
  rcases Deep.open_slice Try.underlying23 h with ⟨h0, _⟩ | ⟨a, len, cap, m, k, D, Pl, hcs, _, hl, hm, hmm, _, hi⟩
  · simp at h0
    obtain ⟨rfl, rfl, rfl⟩ := h0
    exact ⟨[], ⟨rfl, fun hx => by omega⟩, by omega, by simp⟩
  · simp at hcs
    obtain ⟨rfl, rfl, rfl⟩ := hcs
    simp only [if_true] at hmm
    subst hmm
    have key : ∀ i, i < n → ∃ p : Pr, w.cell? ((a.add (i * 2)).add 0) = some (.string p.1) ∧ w.cell? ((a.add (i * 2)).add 1) = some (.string p.2) := by
      intro i hin
      obtain ⟨cs, hc, ht⟩ := hi i (by omega)
      rw [cells40] at hc
      obtain ⟨v0, y0, n0, e0, t0⟩ := elem_field Try.underlying40 hc ht 0 _ rfl cells9 (by decide)
      obtain ⟨v1, y1, n1, e1, t1⟩ := elem_field Try.underlying40 hc ht 1 _ rfl cells9 (by decide)
      obtain ⟨s0, hs0, _⟩ := DataW.trod_string Try.underlying9 t0
      obtain ⟨s1, hs1, _⟩ := DataW.trod_string Try.underlying9 t1
      simp at hs0 hs1
      subst hs0 hs1
      exact ⟨(s0, s1), e0, e1⟩
    obtain ⟨ps, hps, hp⟩ := exists_list n key
    refine ⟨ps, ⟨hps, fun hn => ?_⟩, hl, hm⟩
    obtain ⟨p0, h00, _⟩ := key 0 hn
    obtain ⟨b, o, rfl, hb⟩ := add_none (w := w) (a := a) (by simpa [Addr.add] using h00)
    refine ⟨b, o, rfl, hb, fun k p hk => ?_⟩
    obtain ⟨h1, h2⟩ := hp k p hk
    simp only [Addr.add_lit] at h1 h2
    exact ⟨h1, h2⟩

theorem open_writes {A : Option Addr} {n c fuel : Nat} {x : DataW H × List MemPlace} (h : DataW.trod enc Try.prog w 0 (fun _ => true) true fuel 31 [.slice A n c] = some x) :
    ∃ ws, Wb w w.heap.size A n ws ∧ n ≤ c ∧ c ≤ maxLen := by
  rcases Deep.open_slice Try.underlying31 h with ⟨h0, _⟩ | ⟨a, len, cap, m, k, D, Pl, hcs, _, hl, hm, hmm, _, hi⟩
  · simp at h0
    obtain ⟨rfl, rfl, rfl⟩ := h0
    exact ⟨[], ⟨rfl, fun hx => by omega⟩, by omega, by simp⟩
  · simp at hcs
    obtain ⟨rfl, rfl, rfl⟩ := hcs
    simp only [if_true] at hmm
    subst hmm
    have key : ∀ i, i < n → ∃ p : Wr, w.cell? ((a.add (i * 3)).add 0) = some (.string p.1) ∧ w.cell? ((a.add (i * 3)).add 1) = some (.string p.2.1) ∧ w.cell? ((a.add (i * 3)).add 2) = some (.bool p.2.2) := by
      intro i hin
      obtain ⟨cs, hc, ht⟩ := hi i (by omega)
      rw [cells43] at hc
      obtain ⟨v0, y0, n0, e0, t0⟩ := elem_field Try.underlying43 hc ht 0 _ rfl cells9 (by decide)
      obtain ⟨v1, y1, n1, e1, t1⟩ := elem_field Try.underlying43 hc ht 1 _ rfl cells9 (by decide)
      obtain ⟨v2, y2, n2, e2, t2⟩ := elem_field Try.underlying43 hc ht 2 _ rfl cells4 (by decide)
      obtain ⟨s0, hs0, _⟩ := DataW.trod_string Try.underlying9 t0
      obtain ⟨s1, hs1, _⟩ := DataW.trod_string Try.underlying9 t1
      obtain ⟨s2, hs2, _⟩ := DataW.trod_bool Try.underlying4 t2
      simp at hs0 hs1 hs2
      subst hs0 hs1 hs2
      exact ⟨(s0, s1, s2), e0, e1, e2⟩
    obtain ⟨ps, hps, hp⟩ := exists_list n key
    refine ⟨ps, ⟨hps, fun hn => ?_⟩, hl, hm⟩
    obtain ⟨p0, h00, _⟩ := key 0 hn
    obtain ⟨b, o, rfl, hb⟩ := add_none (w := w) (a := a) (by simpa [Addr.add] using h00)
    refine ⟨b, o, rfl, hb, fun k p hk => ?_⟩
    obtain ⟨h1, h2, h3⟩ := hp k p hk
    simp only [Addr.add_lit] at h1 h2 h3
    exact ⟨h1, h2, h3⟩

theorem open_commits {A : Option Addr} {n c fuel : Nat} {x : DataW H × List MemPlace} (h : DataW.trod enc Try.prog w 0 (fun _ => true) true fuel 22 [.slice A n c] = some x) :
    ∃ cs, Cb w w.heap.size A n cs ∧ n ≤ c ∧ c ≤ maxLen := by
  rcases Deep.open_slice Try.underlying22 h with ⟨h0, _⟩ | ⟨a, len, cap, m, k, D, Pl, hcs, _, hl, hm, hmm, _, hi⟩
  · simp at h0
    obtain ⟨rfl, rfl, rfl⟩ := h0
    exact ⟨[], ⟨rfl, fun hx => by omega⟩, by omega, by simp⟩
  · simp at hcs
    obtain ⟨rfl, rfl, rfl⟩ := hcs
    simp only [if_true] at hmm
    subst hmm
    have hsp : 0 < n → ∃ b o, a = ⟨b, o, none⟩ ∧ b < w.heap.size := by
      intro hn
      obtain ⟨cs, hc, ht⟩ := hi 0 (by omega)
      rw [cells33] at hc
      obtain ⟨v0, y0, n0, e0, t0⟩ := elem_field Try.underlying33 hc ht 0 _ rfl cells30 (by decide)
      exact add_none (w := w) (a := a) (by simpa [Addr.add] using e0)
    have key : ∀ i, i < n → ∃ y : Cm, ∀ b o, a = ⟨b, o, none⟩ → Cm.ok w w.heap.size b (o + i * 9) y := by
      intro i hin
      obtain ⟨cs, hc, ht⟩ := hi i (by omega)
      rw [cells33] at hc
      obtain ⟨v0, y0, n0, e0, t0⟩ := elem_field Try.underlying33 hc ht 0 _ rfl cells30 (by decide)
      obtain ⟨v1, y1, n1, e1, t1⟩ := elem_field Try.underlying33 hc ht 1 _ rfl cells30 (by decide)
      obtain ⟨v2, y2, n2, e2, t2⟩ := elem_field Try.underlying33 hc ht 2 _ rfl cells3 (by decide)
      obtain ⟨v3, y3, n3, e3, t3⟩ := elem_field Try.underlying33 hc ht 3 _ rfl cells30 (by decide)
      obtain ⟨v4, y4, n4, e4, t4⟩ := elem_field Try.underlying33 hc ht 4 _ rfl cells3 (by decide)
      obtain ⟨v5, y5, n5, e5, t5⟩ := elem_field Try.underlying33 hc ht 5 _ rfl cells3 (by decide)
      obtain ⟨v6, y6, n6, e6, t6⟩ := elem_field Try.underlying33 hc ht 6 _ rfl cells4 (by decide)
      obtain ⟨v7, y7, n7, e7, t7⟩ := elem_field Try.underlying33 hc ht 7 _ rfl cells3 (by decide)
      obtain ⟨v8, y8, n8, e8, t8⟩ := elem_field Try.underlying33 hc ht 8 _ rfl cells31 (by decide)
      obtain ⟨i0, hs0, _⟩ := DataW.trod_int Try.underlying30 t0
      obtain ⟨i1, hs1, _⟩ := DataW.trod_int Try.underlying30 t1
      obtain ⟨i2, hs2, _⟩ := DataW.trod_int Try.underlying3 t2
      obtain ⟨i3, hs3, _⟩ := DataW.trod_int Try.underlying30 t3
      obtain ⟨i4, hs4, _⟩ := DataW.trod_int Try.underlying3 t4
      obtain ⟨i5, hs5, _⟩ := DataW.trod_int Try.underlying3 t5
      obtain ⟨i6, hs6, _⟩ := DataW.trod_bool Try.underlying4 t6
      obtain ⟨i7, hs7, _⟩ := DataW.trod_int Try.underlying3 t7
      have hs8 : ∃ A8 n8 c8, v8 = .slice A8 n8 c8 := by
        rcases Deep.open_slice Try.underlying31 t8 with ⟨h0, _⟩ | ⟨a, len, cap, m, k, D, Pl, hcs, _⟩
        · simp at h0; exact ⟨_, _, _, h0⟩
        · simp at hcs; exact ⟨_, _, _, hcs⟩
      obtain ⟨A8, n8, c8, rfl⟩ := hs8
      obtain ⟨ws, hws, _, _⟩ := open_writes t8
      simp at hs0 hs1 hs2 hs3 hs4 hs5 hs6 hs7
      subst hs0 hs1 hs2 hs3 hs4 hs5 hs6 hs7
      refine ⟨⟨i0, i1, i2, i3, i4, i5, i6, i7, A8, n8, c8, ws⟩, fun b o hab => ?_⟩
      subst hab
      simp only [Addr.add_lit] at e0 e1 e2 e3 e4 e5 e6 e7 e8
      exact ⟨e0, e1, e2, e3, e4, e5, e6, e7, e8, hws⟩
    obtain ⟨cs, hcs, hp⟩ := exists_list n key
    refine ⟨cs, ⟨hcs, fun hn => ?_⟩, hl, hm⟩
    obtain ⟨b, o, rfl, hb⟩ := hsp hn
    exact ⟨b, o, rfl, hb, fun k y hk => hp k y hk b o rfl⟩
end

end Go.Proofs.Ytjgkiecepjlheaa
