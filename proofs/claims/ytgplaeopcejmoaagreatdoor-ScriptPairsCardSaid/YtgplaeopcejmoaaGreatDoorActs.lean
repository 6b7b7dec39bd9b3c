/- Acts that lie in memory: in a row that came in, in a row of the call's own. -/
import Derived.Test.YtgplaeopcejmoaaGreatDoorRsame
import Derived.Test.YtgplaeopcejmoaaGreatDoorActofb
import Derived.Deep.MidRow
namespace Go.Proofs.YtgplaeopcejmoaaGreatDoor
open Go.RowKit Go.Shelf

theorem rangeAt_below {w w' : World} {B g o : Nat} {L : List Value} (h : w.rangeAt g o L) (hb : Below B w w') (hg : g < B) : w'.rangeAt g o L := fun j v hv => (hb.cell (p := ⟨g, o + j, none⟩) hg).trans (h j v hv)
/-- an act at a place -/
def ActAt (w : World) (g o : Nat) (a : Ar) : Prop := ∃ pa pc, w.rangeAt g o (actCells a (.slice pa a.picks.length pc)) ∧ PkAt w pa a.picks
theorem ActAt.below {w w' : World} {g o : Nat} {a : Ar} (h : ActAt w g o a) (hb : Below w.heap.size w w') (hg : g < w.heap.size) : ActAt w' g o a := by
  obtain ⟨pa, pc, h1, h2⟩ := h
  exact ⟨pa, pc, rangeAt_below h1 hb hg, h2.below hb⟩
/-- acts in a row -/
def ActsAt (w : World) (pa : Option Addr) (l : List Ar) : Prop := l ≠ [] → ∃ g o, pa = some ⟨g, o, none⟩ ∧ g < w.heap.size ∧ ∀ j a, l[j]? = some a → ActAt w g (o + j * 12) a
theorem ActsAt.below {w w' : World} {pa : Option Addr} {l : List Ar} (h : ActsAt w pa l) (hb : Below w.heap.size w w') : ActsAt w' pa l := fun hl => by
  obtain ⟨g, o, e, hg, hc⟩ := h hl
  exact ⟨g, o, e, Nat.lt_of_lt_of_le hg hb.size, fun j a ha => (hc j a ha).below hb hg⟩
theorem ActsAt.nil (w : World) (pa : Option Addr) : ActsAt w pa [] := fun h => absurd rfl h
theorem ActsAt.drew {w : World} {pa : Option Addr} {l : List Ar} (h : ActsAt w pa l) : ActsAt w.drew pa l := fun hl => h hl
theorem ActsAt.take {w : World} {pa : Option Addr} {l : List Ar} (h : ActsAt w pa l) (n : Nat) : ActsAt w pa (l.take n) := fun hl => by
  obtain ⟨g, o, e, hg, hc⟩ := h (fun e => hl (by rw [e]; simp))
  refine ⟨g, o, e, hg, fun j a ha => hc j a ?_⟩
  rw [List.getElem?_take] at ha
  split at ha
  · exact ha
  · cases ha
theorem actCells_len (a : Ar) (v : Value) : (actCells a v).length = 12 := rfl

/-! ### a row of the call's own -/
theorem infoActF : (Tryz.prog.info? 39).map (fun i => (i.zero, i.size, i.bytes)) = some (some (.agg (actCells arZero (.slice none 0 0)).toArray), 12, 136) := by kernel_rfl
abbrev ArV := Ar × (Option Addr × Nat)
def arvV (x : ArV) : Value := .slice x.2.1 x.1.picks.length x.2.2
def cellsA (l : List ArV) : List Value := l.flatMap fun x => actCells x.1 (arvV x)
theorem cellsA_app (a b : List ArV) : cellsA (a ++ b) = cellsA a ++ cellsA b := by simp [cellsA]
theorem cellsA_one (x : ArV) : cellsA [x] = actCells x.1 (arvV x) := by simp [cellsA]
theorem cellsA_len : ∀ l : List ArV, (cellsA l).length = l.length * 12
  | [] => rfl
  | x :: l => by
    have ih := cellsA_len l
    unfold cellsA at ih ⊢
    rw [List.flatMap_cons, List.length_append, ih, actCells_len, List.length_cons]; omega
theorem cellsA_at : ∀ (l : List ArV) (j : Nat) (x : ArV), l[j]? = some x → ∀ i v, (actCells x.1 (arvV x))[i]? = some v → (cellsA l)[j * 12 + i]? = some v
  | [], j, x, h, _, _, _ => by simp at h
  | y :: l, 0, x, h, i, v, hv => by
    simp only [List.getElem?_cons_zero, Option.some.injEq] at h
    subst h
    unfold cellsA
    rw [List.flatMap_cons, Nat.zero_mul, Nat.zero_add, List.getElem?_append_left]
    · exact hv
    · exact (List.getElem?_eq_some_iff.1 hv).1
  | y :: l, j + 1, x, h, i, v, hv => by
    have ih := cellsA_at l j x (by simpa using h) i v hv
    unfold cellsA at ih ⊢
    rw [List.flatMap_cons, List.getElem?_append_right (by rw [actCells_len]; omega), actCells_len, show (j + 1) * 12 + i - 12 = j * 12 + i by omega]
    exact ih
theorem cellsA_cell1 (l : List ArV) : ∀ u ∈ cellsA l, u.oneCell' = true := by
  intro u hu
  obtain ⟨x, _, hx⟩ := List.mem_flatMap.1 hu
  simp only [actCells, List.mem_cons, List.not_mem_nil, or_false] at hx
  rcases hx with rfl | rfl | rfl | rfl | rfl | rfl | rfl | rfl | rfl | rfl | rfl | rfl <;> rfl
/-- picks that lie apart from a row -/
def PkApart (w : World) (B base : Nat) (row : Option Nat) (x : ArV) : Prop :=
  x.1.picks ≠ [] → ∃ g o, x.2.1 = some ⟨g, o, none⟩ ∧ (g < B ∨ base ≤ g) ∧ g < w.heap.size ∧ some g ≠ row ∧ ∀ j n, x.1.picks[j]? = some n → w.cell? ⟨g, o + j, none⟩ = some (.int .i64 n)
structure AcRow (w : World) (B base : Nat) (v : Value) (l : List ArV) : Prop where
  own : w.ownsRow base 39 12 v l.length (cellsA l)
  pk : ∀ x ∈ l, PkApart w B base v.ownBlock x
theorem PkApart.pk {w : World} {B base : Nat} {row : Option Nat} {x : ArV} (h : PkApart w B base row x) : PkAt w x.2.1 x.1.picks := fun hl => by
  obtain ⟨g, o, e, _, hg, _, hc⟩ := h hl
  exact ⟨g, o, e, hg, hc⟩
theorem PkApart.turn {w w' : World} {B base : Nat} {row k : Option Nat} {x : ArV} (h : PkApart w B base row x) (hg : w.grownBy w' k) (hk : k = row ∨ ∀ i, k = some i → B ≤ i ∧ i < base) : PkApart w' B base row x := fun hl => by
  obtain ⟨g, o, e, hB, hs, hr, hc⟩ := h hl
  have hne : some g ≠ k := by
    intro e2
    rcases hk with rfl | hk
    · exact hr e2
    · have := hk g e2.symm
      omega
  have hh := hg.block g hs hne
  exact ⟨g, o, e, hB, Nat.lt_of_lt_of_le hs hg.size, hr, fun j n hn => by
    rw [World.cell?_of_block (a := ⟨g, o + j, none⟩) hh]
    exact hc j n hn⟩
theorem AcRow.nil (w : World) (B base : Nat) : AcRow w B base (.slice none 0 0) [] := ⟨World.ownsRow_nil _ _ _ _, fun x hx => by cases hx⟩
theorem AcRow.form {w : World} {B base : Nat} {v : Value} {l : List ArV} (h : AcRow w B base v l) : ∃ pa c, v = .slice pa l.length c := by
  rcases h.own.2 with ⟨rfl, hx⟩ | ⟨g, cap, cur, rfl, _⟩
  · exact ⟨none, 0, by rw [hx]⟩
  · exact ⟨_, _, rfl⟩
theorem AcRow.lt {w : World} {B base : Nat} {v : Value} {l : List ArV} (h : AcRow w B base v l) : ∀ k, v.ownBlock = some k → base ≤ k ∧ k < w.heap.size := World.ownsRow.lt h.own
theorem AcRow.turn {w w' : World} {B base : Nat} {v : Value} {l : List ArV} (h : AcRow w B base v l) {k : Option Nat} (hg : w.grownBy w' k) (hk : ∀ i, k = some i → B ≤ i ∧ i < base) : AcRow w' B base v l :=
  ⟨World.ownsRow.kept h.own hg (by
    cases e : v.ownBlock with
    | none => exact .inl rfl
    | some j =>
      refine .inr fun e2 => ?_
      have h1 := h.lt j e
      have h2 := hk j e2.symm
      omega), fun x hx => (h.pk x hx).turn hg (.inr hk)⟩
theorem AcRow.below {w w' : World} {B base : Nat} {v : Value} {l : List ArV} (h : AcRow w B base v l) (hb : Below w.heap.size w w') : AcRow w' B base v l :=
  h.turn (k := none) ⟨hb.os, hb.tape, hb.output, hb.size, fun j hj _ => hb.block j hj⟩ (by simp)
theorem AcRow.alloc {w : World} {B base : Nat} {v : Value} {l : List ArV} (h : AcRow w B base v l) (x : Obj) : AcRow (w.alloc x) B base v l := h.turn (World.grownBy_alloc w x none) (by simp)
theorem AcRow.drew {w : World} {B base : Nat} {v : Value} {l : List ArV} (h : AcRow w B base v l) : AcRow w.drew B base v l := h.turn (grownBy_drew w none) (by simp)
theorem AcRow.at {w : World} {B base : Nat} {v : Value} {l : List ArV} (h : AcRow w B base v l) : ∃ pa c, v = .slice pa l.length c ∧ ActsAt w pa (l.map (·.1)) := by
  obtain ⟨pa, c, rfl⟩ := h.form
  refine ⟨pa, c, rfl, fun hl => ?_⟩
  have hl' : l ≠ [] := fun e => hl (by rw [e]; rfl)
  obtain ⟨g, cap, hv, _, hg⟩ := World.ownsRow.form h.own (List.length_pos_iff.2 hl')
  injection hv with hv
  subst hv
  refine ⟨g, 0, rfl, hg, fun j a ha => ?_⟩
  rw [List.getElem?_map] at ha
  cases hx : l[j]? with
  | none => rw [hx] at ha; cases ha
  | some x =>
    rw [hx] at ha
    simp only [Option.map_some, Option.some.injEq] at ha
    subst ha
    refine ⟨x.2.1, x.2.2, fun i u hu => ?_, (h.pk x (List.mem_of_getElem? hx)).pk⟩
    have hc := World.ownsRow.cells h.own (g := g) rfl (j * 12 + i) u (cellsA_at l j x hx i u hu)
    rw [Addr.add_lit] at hc
    rw [← Nat.add_assoc] at hc
    exact hc

/-- an append to a row of the call's own leaves it where it was, or lays it anew -/
theorem run_append_fresh {P : Program} (w : World) (base : Nat) (t ty e : TypeId) (i : TypeInfo) (z : Value) (size bytes : Nat) (ht : P.underlying t = some (.slice e)) (hi : P.info? e = some i) (hz : i.zero = some z)
    (hsize : i.size = size) (hby : i.bytes = bytes) (hzs : z.cells.size = size) (hsz : 0 < size)
    (v : Value) (n : Nat) (xs : List Value) (hown : w.ownsRow base e size v n xs)
    (a : Addr) (m c : Nat) (news : List Value) (hl : news.length = m * size) (hnews : ∀ j u, news[j]? = some u → w.cell? (a.add j) = some u) (h1 : ∀ u ∈ news, u.oneCell' = true)
    (h63 : n + m ≤ maxLen) (hbytes : (n + m) * bytes ≤ 140737488355328) (hbase : base ≤ w.heap.size) :
    ∃ v' w', (Builtin.append_ #[t, t] ty #[v, .slice (some a) m c]).run P w = .ok v' w' ∧ w'.ownsRow base e size v' (n + m) (xs ++ news) ∧ w.grownBy w' v.ownBlock ∧ ∀ k, v'.ownBlock = some k → v.ownBlock = some k ∨ w.heap.size ≤ k := by
  obtain ⟨v', w', hr, g1, g2, _⟩ := run_append_own (P := P) w base t ty e i z size bytes ht hi hz hsize hby hzs hsz v n xs hown a m c news hl hnews h1 h63 hbytes hbase
  refine ⟨v', w', hr, g1, g2, fun k hk => ?_⟩
  rcases hown.2 with ⟨rfl, rfl⟩ | ⟨g, cap, cur, rfl, hbg, hg, hnc, hcm, hcs, htake⟩
  · right
    obtain rfl : xs = [] := List.eq_nil_of_length_eq_zero (by simpa using hown.1)
    obtain ⟨v2, w2, hr2, k1, _, _⟩ := run_append_own (P := P) w w.heap.size t ty e i z size bytes ht hi hz hsize hby hzs hsz (.slice none 0 0) 0 [] (World.ownsRow_nil _ _ _ _) a m c news hl hnews h1 h63 hbytes (Nat.le_refl _)
    rw [hr] at hr2
    injection hr2 with e1 e2
    subst e1 e2
    exact (World.ownsRow.lt k1 k hk).1
  · subst hsize
    by_cases hroom : n + m ≤ cap
    · left
      have hfit : n * i.size + news.length ≤ cur.size := by rw [hl, hcs, ← Nat.add_mul]; exact Nat.mul_le_mul_right _ hroom
      have hr2 := run_append_room (P := P) w t ty e i ht hi g n cap cur hg a m c news hl hnews h1 hroom hfit
      rw [hr] at hr2
      injection hr2 with e1 e2
      subst e1
      simpa [Value.ownBlock] using hk
    · right
      have holds : ∀ j u, xs[j]? = some u → w.cell? ((⟨g, 0, none⟩ : Addr).add j) = some u := hown.cells (g := g) rfl
      subst hby
      have hsm : n + m ≤ 9223372036854775807 := by simp only [maxLen] at h63; omega
      have hr2 := run_append_grow (P := P) w t ty e i z ht hi hz ⟨g, 0, none⟩ n cap xs hown.1 holds a m c news hl hnews (by omega) (by omega) (growslice_fits (by omega) hbytes)
      rw [hr] at hr2
      injection hr2 with e1 e2
      subst e1
      have : w.heap.size = k := by simpa [Value.ownBlock] using hk
      omega
theorem info_act : ∃ i, Tryz.prog.info? 39 = some i ∧ i.zero = some (.agg (actCells arZero (.slice none 0 0)).toArray) ∧ i.size = 12 ∧ i.bytes = 136 := by
  obtain ⟨i, h0, h1, h2, h3⟩ := info_parts infoActF
  exact ⟨i, h0, h1, h2, h3⟩
/-- acts appended to acts of the call's own -/
theorem append_a (w : World) (B base : Nat) (v : Value) (l : List ArV) (h : AcRow w B base v l) (hn : l.length ≤ 1000000) (hbase : base ≤ w.heap.size) (ad : Addr) (m c : Nat) (news : List ArV) (hm : m = news.length) (hn2 : m ≤ 1000000)
    (hnews : ∀ j u, (cellsA news)[j]? = some u → w.cell? (ad.add j) = some u) (hpk : ∀ x ∈ news, PkApart w B base v.ownBlock x) (ty : TypeId) :
    ∃ v' w', (∀ cs, (builtin .append #[61, 61] ty cs #[v, .slice (some ad) m c]).run Tryz.prog w = .ok (.value v') w') ∧ AcRow w' B base v' (l ++ news) ∧ w.grownBy w' v.ownBlock := by
  subst hm
  obtain ⟨i0, hi0, hz0, hz1, hz2⟩ := info_act
  obtain ⟨v', w', hr, h1, h2, h3⟩ := run_append_fresh (P := Tryz.prog) w base 61 ty 39 i0 _ 12 136 Tryz.underlying61 hi0 hz0 hz1 hz2 rfl (by omega) v l.length (cellsA l) h.own ad news.length c (cellsA news) (cellsA_len news) hnews (cellsA_cell1 _) (by unfold maxLen; omega) (by omega) hbase
  refine ⟨v', w', fun _ => by simp only [builtin, Sem.run_bind, hr, Result.andThen_ok, Sem.run_pure], ⟨by rw [List.length_append, cellsA_app]; exact h1, fun x hx => ?_⟩, h2⟩
  have hx' : PkApart w B base v.ownBlock x := by
    rcases List.mem_append.1 hx with hx | hx
    · exact h.pk x hx
    · exact hpk x hx
  have hx2 := hx'.turn h2 (.inl rfl)
  intro hl
  obtain ⟨g, o, e, hB, hs, hr', hc⟩ := hx2 hl
  obtain ⟨g2, o2, e2, _, hs2, _, _⟩ := hx' hl
  rw [e] at e2
  injection e2 with e2
  injection e2 with e2
  subst e2
  refine ⟨g, o, e, hB, hs, fun e3 => ?_, hc⟩
  rcases h3 g e3.symm with h4 | h4
  · exact hr' h4.symm
  · omega
end Go.Proofs.YtgplaeopcejmoaaGreatDoor
