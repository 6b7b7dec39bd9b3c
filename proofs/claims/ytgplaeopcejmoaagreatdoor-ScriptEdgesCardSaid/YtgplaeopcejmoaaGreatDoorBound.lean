/- Acts that lie in memory: in a row that came in, in a row of the call's own. The walk of the document's Much: has a script more than is gone through? How long a script's text is; a script's text is its alone. -/
import Derived.Test.YtgplaeopcejmoaaGreatDoorRsame
import Derived.Test.YtgplaeopcejmoaaGreatDoorActofb
import Derived.Deep.MidRow
import Derived.Test.YtgplaeopcejmoaaGreatDoorScr
import Derived.Test.YtgplaeopcejmoaaGreatDoorRacttext
namespace Go.Proofs.YtgplaeopcejmoaaGreatDoor
open Go.RowKit Go.Shelf

theorem rangeAt_below {w w' : World} {B g o : Nat} {L : List Value} (h : w.rangeAt g o L) (hb : Below B w w') (hg : g < B) : w'.rangeAt g o L := fun j v hv => (hb.cell (p := ⟨g, o + j, none⟩) hg).trans (h j v hv)
/-- an act at a place -/
def ActAt (w : World) (g o : Nat) (a : Ar) : Prop := ∃ pa pc, w.rangeAt g o (actCells a (.slice pa a.picks.length pc)) ∧ PkAt w pa a.picks
theorem ActAt.below {w w' : World} {g o : Nat} {a : Ar} (h : ActAt w g o a) (hb : Below w.heap.size w w') (hg : g < w.heap.size) : ActAt w' g o a := by
  obtain ⟨pa, pc, h1, h2⟩ := h
  exact ⟨pa, pc, rangeAt_below h1 hb hg, h2.below hb⟩
/-- acts in a row -/
def ActsAt (w : World) (pa : Option Addr) (l : List Ar) : Prop := l ≠ [] → ∃ g o, pa = some ⟨g, o, none⟩ ∧ g < w.heap.size ∧ ∀ j a, l[j]? = some a → ActAt w g (o + j * 12) a
theorem ActsAt.below {w w' : World} {pa : Option Addr} {l : List Ar} (h : ActsAt w pa l) (hb : Below w.heap.size w w') : ActsAt w' pa l := fun hl => by
  obtain ⟨g, o, e, hg, hc⟩ := h hl
  exact ⟨g, o, e, Nat.lt_of_lt_of_le hg hb.size, fun j a ha => (hc j a ha).below hb hg⟩
theorem ActsAt.nil (w : World) (pa : Option Addr) : ActsAt w pa [] := fun h => absurd rfl h
theorem ActsAt.drew {w : World} {pa : Option Addr} {l : List Ar} (h : ActsAt w pa l) : ActsAt w.drew pa l := fun hl => h hl
theorem ActsAt.take {w : World} {pa : Option Addr} {l : List Ar} (h : ActsAt w pa l) (n : Nat) : ActsAt w pa (l.take n) := fun hl => by
  obtain ⟨g, o, e, hg, hc⟩ := h (fun e => hl (by rw [e]; simp))
  refine ⟨g, o, e, hg, fun j a ha => hc j a ?_⟩
  rw [List.getElem?_take] at ha
  split at ha
  · exact ha
  · cases ha
theorem actCells_len (a : Ar) (v : Value) : (actCells a v).length = 12 := rfl

/-! ### a row of the call's own -/
theorem infoActF : (Tryz.prog.info? 39).map (fun i => (i.zero, i.size, i.bytes)) = some (some (.agg (actCells arZero (.slice none 0 0)).toArray), 12, 136) := by kernel_rfl
abbrev ArV := Ar × (Option Addr × Nat)
def arvV (x : ArV) : Value := .slice x.2.1 x.1.picks.length x.2.2
def cellsA (l : List ArV) : List Value := l.flatMap fun x => actCells x.1 (arvV x)
theorem cellsA_app (a b : List ArV) : cellsA (a ++ b) = cellsA a ++ cellsA b := by simp [cellsA]
theorem cellsA_one (x : ArV) : cellsA [x] = actCells x.1 (arvV x) := by simp [cellsA]
theorem cellsA_len : ∀ l : List ArV, (cellsA l).length = l.length * 12
  | [] => rfl
  | x :: l => by
    have ih := cellsA_len l
    unfold cellsA at ih ⊢
    rw [List.flatMap_cons, List.length_append, ih, actCells_len, List.length_cons]; omega
theorem cellsA_at : ∀ (l : List ArV) (j : Nat) (x : ArV), l[j]? = some x → ∀ i v, (actCells x.1 (arvV x))[i]? = some v → (cellsA l)[j * 12 + i]? = some v
  | [], j, x, h, _, _, _ => by simp at h
  | y :: l, 0, x, h, i, v, hv => by
    simp only [List.getElem?_cons_zero, Option.some.injEq] at h
    subst h
    unfold cellsA
    rw [List.flatMap_cons, Nat.zero_mul, Nat.zero_add, List.getElem?_append_left]
    · exact hv
    · exact (List.getElem?_eq_some_iff.1 hv).1
  | y :: l, j + 1, x, h, i, v, hv => by
    have ih := cellsA_at l j x (by simpa using h) i v hv
    unfold cellsA at ih ⊢
    rw [List.flatMap_cons, List.getElem?_append_right (by rw [actCells_len]; omega), actCells_len, show (j + 1) * 12 + i - 12 = j * 12 + i by omega]
    exact ih
theorem cellsA_cell1 (l : List ArV) : ∀ u ∈ cellsA l, u.oneCell' = true := by
  intro u hu
  obtain ⟨x, _, hx⟩ := List.mem_flatMap.1 hu
  simp only [actCells, List.mem_cons, List.not_mem_nil, or_false] at hx
  rcases hx with rfl | rfl | rfl | rfl | rfl | rfl | rfl | rfl | rfl | rfl | rfl | rfl <;> rfl
/-- picks that lie apart from a row -/
def PkApart (w : World) (B base : Nat) (row : Option Nat) (x : ArV) : Prop :=
  x.1.picks ≠ [] → ∃ g o, x.2.1 = some ⟨g, o, none⟩ ∧ (g < B ∨ base ≤ g) ∧ g < w.heap.size ∧ some g ≠ row ∧ ∀ j n, x.1.picks[j]? = some n → w.cell? ⟨g, o + j, none⟩ = some (.int .i64 n)
structure AcRow (w : World) (B base : Nat) (v : Value) (l : List ArV) : Prop where
  own : w.ownsRow base 39 12 v l.length (cellsA l)
  pk : ∀ x ∈ l, PkApart w B base v.ownBlock x
theorem PkApart.pk {w : World} {B base : Nat} {row : Option Nat} {x : ArV} (h : PkApart w B base row x) : PkAt w x.2.1 x.1.picks := fun hl => by
  obtain ⟨g, o, e, _, hg, _, hc⟩ := h hl
  exact ⟨g, o, e, hg, hc⟩
theorem PkApart.turn {w w' : World} {B base : Nat} {row k : Option Nat} {x : ArV} (h : PkApart w B base row x) (hg : w.grownBy w' k) (hk : k = row ∨ ∀ i, k = some i → B ≤ i ∧ i < base) : PkApart w' B base row x := fun hl => by
  obtain ⟨g, o, e, hB, hs, hr, hc⟩ := h hl
  have hne : some g ≠ k := by
    intro e2
    rcases hk with rfl | hk
    · exact hr e2
    · have := hk g e2.symm
      omega
  have hh := hg.block g hs hne
  exact ⟨g, o, e, hB, Nat.lt_of_lt_of_le hs hg.size, hr, fun j n hn => by
    rw [World.cell?_of_block (a := ⟨g, o + j, none⟩) hh]
    exact hc j n hn⟩
theorem AcRow.nil (w : World) (B base : Nat) : AcRow w B base (.slice none 0 0) [] := ⟨World.ownsRow_nil _ _ _ _, fun x hx => by cases hx⟩
theorem AcRow.form {w : World} {B base : Nat} {v : Value} {l : List ArV} (h : AcRow w B base v l) : ∃ pa c, v = .slice pa l.length c := by
  rcases h.own.2 with ⟨rfl, hx⟩ | ⟨g, cap, cur, rfl, _⟩
  · exact ⟨none, 0, by rw [hx]⟩
  · exact ⟨_, _, rfl⟩
theorem AcRow.lt {w : World} {B base : Nat} {v : Value} {l : List ArV} (h : AcRow w B base v l) : ∀ k, v.ownBlock = some k → base ≤ k ∧ k < w.heap.size := World.ownsRow.lt h.own
theorem AcRow.turn {w w' : World} {B base : Nat} {v : Value} {l : List ArV} (h : AcRow w B base v l) {k : Option Nat} (hg : w.grownBy w' k) (hk : ∀ i, k = some i → B ≤ i ∧ i < base) : AcRow w' B base v l :=
  ⟨World.ownsRow.kept h.own hg (by
    cases e : v.ownBlock with
    | none => exact .inl rfl
    | some j =>
      refine .inr fun e2 => ?_
      have h1 := h.lt j e
      have h2 := hk j e2.symm
      omega), fun x hx => (h.pk x hx).turn hg (.inr hk)⟩
theorem AcRow.below {w w' : World} {B base : Nat} {v : Value} {l : List ArV} (h : AcRow w B base v l) (hb : Below w.heap.size w w') : AcRow w' B base v l :=
  h.turn (k := none) ⟨hb.os, hb.tape, hb.output, hb.size, fun j hj _ => hb.block j hj⟩ (by simp)
theorem AcRow.alloc {w : World} {B base : Nat} {v : Value} {l : List ArV} (h : AcRow w B base v l) (x : Obj) : AcRow (w.alloc x) B base v l := h.turn (World.grownBy_alloc w x none) (by simp)
theorem AcRow.drew {w : World} {B base : Nat} {v : Value} {l : List ArV} (h : AcRow w B base v l) : AcRow w.drew B base v l := h.turn (grownBy_drew w none) (by simp)
theorem AcRow.at {w : World} {B base : Nat} {v : Value} {l : List ArV} (h : AcRow w B base v l) : ∃ pa c, v = .slice pa l.length c ∧ ActsAt w pa (l.map (·.1)) := by
  obtain ⟨pa, c, rfl⟩ := h.form
  refine ⟨pa, c, rfl, fun hl => ?_⟩
  have hl' : l ≠ [] := fun e => hl (by rw [e]; rfl)
  obtain ⟨g, cap, hv, _, hg⟩ := World.ownsRow.form h.own (List.length_pos_iff.2 hl')
  injection hv with hv
  subst hv
  refine ⟨g, 0, rfl, hg, fun j a ha => ?_⟩
  rw [List.getElem?_map] at ha
  cases hx : l[j]? with
  | none => rw [hx] at ha; cases ha
  | some x =>
    rw [hx] at ha
    simp only [Option.map_some, Option.some.injEq] at ha
    subst ha
    refine ⟨x.2.1, x.2.2, fun i u hu => ?_, (h.pk x (List.mem_of_getElem? hx)).pk⟩
    have hc := World.ownsRow.cells h.own (g := g) rfl (j * 12 + i) u (cellsA_at l j x hx i u hu)
    rw [Addr.add_lit] at hc
    rw [← Nat.add_assoc] at hc
    exact hc

/-- an append to a row of the call's own leaves it where it was, or lays it anew -/
theorem run_append_fresh {P : Program} (w : World) (base : Nat) (t ty e : TypeId) (i : TypeInfo) (z : Value) (size bytes : Nat) (ht : P.underlying t = some (.slice e)) (hi : P.info? e = some i) (hz : i.zero = some z)
    (hsize : i.size = size) (hby : i.bytes = bytes) (hzs : z.cells.size = size) (hsz : 0 < size)
    (v : Value) (n : Nat) (xs : List Value) (hown : w.ownsRow base e size v n xs)
    (a : Addr) (m c : Nat) (news : List Value) (hl : news.length = m * size) (hnews : ∀ j u, news[j]? = some u → w.cell? (a.add j) = some u) (h1 : ∀ u ∈ news, u.oneCell' = true)
    (h63 : n + m ≤ maxLen) (hbytes : (n + m) * bytes ≤ 140737488355328) (hbase : base ≤ w.heap.size) :
    ∃ v' w', (Builtin.append_ #[t, t] ty #[v, .slice (some a) m c]).run P w = .ok v' w' ∧ w'.ownsRow base e size v' (n + m) (xs ++ news) ∧ w.grownBy w' v.ownBlock ∧ ∀ k, v'.ownBlock = some k → v.ownBlock = some k ∨ w.heap.size ≤ k := by
  obtain ⟨v', w', hr, g1, g2, _⟩ := run_append_own (P := P) w base t ty e i z size bytes ht hi hz hsize hby hzs hsz v n xs hown a m c news hl hnews h1 h63 hbytes hbase
  refine ⟨v', w', hr, g1, g2, fun k hk => ?_⟩
  rcases hown.2 with ⟨rfl, rfl⟩ | ⟨g, cap, cur, rfl, hbg, hg, hnc, hcm, hcs, htake⟩
  · right
    obtain rfl : xs = [] := List.eq_nil_of_length_eq_zero (by simpa using hown.1)
    obtain ⟨v2, w2, hr2, k1, _, _⟩ := run_append_own (P := P) w w.heap.size t ty e i z size bytes ht hi hz hsize hby hzs hsz (.slice none 0 0) 0 [] (World.ownsRow_nil _ _ _ _) a m c news hl hnews h1 h63 hbytes (Nat.le_refl _)
    rw [hr] at hr2
    injection hr2 with e1 e2
    subst e1 e2
    exact (World.ownsRow.lt k1 k hk).1
  · subst hsize
    by_cases hroom : n + m ≤ cap
    · left
      have hfit : n * i.size + news.length ≤ cur.size := by rw [hl, hcs, ← Nat.add_mul]; exact Nat.mul_le_mul_right _ hroom
      have hr2 := run_append_room (P := P) w t ty e i ht hi g n cap cur hg a m c news hl hnews h1 hroom hfit
      rw [hr] at hr2
      injection hr2 with e1 e2
      subst e1
      simpa [Value.ownBlock] using hk
    · right
      have holds : ∀ j u, xs[j]? = some u → w.cell? ((⟨g, 0, none⟩ : Addr).add j) = some u := hown.cells (g := g) rfl
      subst hby
      have hsm : n + m ≤ 9223372036854775807 := by simp only [maxLen] at h63; omega
      have hr2 := run_append_grow (P := P) w t ty e i z ht hi hz ⟨g, 0, none⟩ n cap xs hown.1 holds a m c news hl hnews (by omega) (by omega) (growslice_fits (by omega) hbytes)
      rw [hr] at hr2
      injection hr2 with e1 e2
      subst e1
      have : w.heap.size = k := by simpa [Value.ownBlock] using hk
      omega
theorem info_act : ∃ i, Tryz.prog.info? 39 = some i ∧ i.zero = some (.agg (actCells arZero (.slice none 0 0)).toArray) ∧ i.size = 12 ∧ i.bytes = 136 := by
  obtain ⟨i, h0, h1, h2, h3⟩ := info_parts infoActF
  exact ⟨i, h0, h1, h2, h3⟩
/-- acts appended to acts of the call's own -/
theorem append_a (w : World) (B base : Nat) (v : Value) (l : List ArV) (h : AcRow w B base v l) (hn : l.length ≤ 1000000) (hbase : base ≤ w.heap.size) (ad : Addr) (m c : Nat) (news : List ArV) (hm : m = news.length) (hn2 : m ≤ 1000000)
    (hnews : ∀ j u, (cellsA news)[j]? = some u → w.cell? (ad.add j) = some u) (hpk : ∀ x ∈ news, PkApart w B base v.ownBlock x) (ty : TypeId) :
    ∃ v' w', (∀ cs, (builtin .append #[61, 61] ty cs #[v, .slice (some ad) m c]).run Tryz.prog w = .ok (.value v') w') ∧ AcRow w' B base v' (l ++ news) ∧ w.grownBy w' v.ownBlock := by
  subst hm
  obtain ⟨i0, hi0, hz0, hz1, hz2⟩ := info_act
  obtain ⟨v', w', hr, h1, h2, h3⟩ := run_append_fresh (P := Tryz.prog) w base 61 ty 39 i0 _ 12 136 Tryz.underlying61 hi0 hz0 hz1 hz2 rfl (by omega) v l.length (cellsA l) h.own ad news.length c (cellsA news) (cellsA_len news) hnews (cellsA_cell1 _) (by unfold maxLen; omega) (by omega) hbase
  refine ⟨v', w', fun _ => by simp only [builtin, Sem.run_bind, hr, Result.andThen_ok, Sem.run_pure], ⟨by rw [List.length_append, cellsA_app]; exact h1, fun x hx => ?_⟩, h2⟩
  have hx' : PkApart w B base v.ownBlock x := by
    rcases List.mem_append.1 hx with hx | hx
    · exact h.pk x hx
    · exact hpk x hx
  have hx2 := hx'.turn h2 (.inl rfl)
  intro hl
  obtain ⟨g, o, e, hB, hs, hr', hc⟩ := hx2 hl
  obtain ⟨g2, o2, e2, _, hs2, _, _⟩ := hx' hl
  rw [e] at e2
  injection e2 with e2
  injection e2 with e2
  subst e2
  refine ⟨g, o, e, hB, hs, fun e3 => ?_, hc⟩
  rcases h3 g e3.symm with h4 | h4
  · exact hr' h4.symm
  · omega
end Go.Proofs.YtgplaeopcejmoaaGreatDoor
namespace Go.Proofs.YtgplaeopcejmoaaGreatDoor
open Go.RowKit Go.Shelf

def scrCells (s : Scr) (pv : Value) : List Value := [.int .i64 s.set.nodes, .int .i64 s.set.capacity, .int .i64 s.set.frames, .int .i64 s.set.quorum, .int .i64 s.set.delay, pv]
def weigh (a : Ar) : Nat := a.op.key.size + a.op.til.size + a.op.value.size + a.picks.length
def weighs (l : List Ar) : Nat := (l.map weigh).sum
structure Few (s : Scr) : Prop where
  len : s.acts.length ≤ 200
  small : ∀ a ∈ s.acts, smallA a
  sum : weighs s.acts ≤ 60000
theorem weighs_next {l : List Ar} {k : Nat} {a : Ar} (h : l[k]? = some a) : weighs (l.take (k + 1)) = weighs (l.take k) + weigh a := by
  unfold weighs
  rw [List.take_add_one, h]
  simp
theorem weigh_small {a : Ar} (h : smallA a) : weigh a ≤ 8000 := by
  obtain ⟨h1, h2, h3, h4⟩ := h
  unfold weigh; omega
theorem weighs_small (l : List Ar) : (∀ a ∈ l, smallA a) → weighs l ≤ l.length * 8000 := by
  induction l with
  | nil => intro _; exact Nat.le_refl _
  | cons a l ih =>
    intro h
    have h1 := ih (fun b hb => h b (by simp [hb]))
    have h2 := weigh_small (h a (by simp))
    unfold weighs at h1 ⊢
    rw [List.map_cons, List.sum_cons, List.length_cons]; omega
def muchR (s : Scr) (e : Ending) : Prop := ∃ b, e = .returned (.bool b) ∧ (b = false → Few s)
theorem muchR_t (s : Scr) : muchR s (.returned (.bool true)) := ⟨true, rfl, fun h => by cases h⟩
theorem muchR_f {s : Scr} (h : Few s) : muchR s (.returned (.bool false)) := ⟨false, rfl, fun _ => h⟩
theorem scr_info : (Tryz.prog.info? 39).map (·.size) = some 12 := by kernel_rfl

set_option maxRecDepth 100000 in
set_option maxHeartbeats 4000000 in
theorem much_any (s : Scr) (pa : Option Addr) (pc : Nat) (w : World) (hA : ActsAt w pa s.acts) :
    Calls Tryz.prog 32 #[.agg (scrCells s (.slice pa s.acts.length pc)).toArray] w fun e w' => muchR s e ∧ Below w.heap.size w w' := by
  have hB := Blk.new w 63 (scrCells s (.slice pa s.acts.length pc))
  have hb : Below w.heap.size w (w.alloc (.cells (scrCells s (.slice pa s.acts.length pc)).toArray 63)) := (Below.refl _ w).alloc (Nat.le_refl _) _
  have hA1 := hA.below hb
  have HA := Lib.hid hA1
  clear hA hA1
  obtain ⟨⟨nodes, capacity, frames, quorum, delay⟩, acts⟩ := s
  simp only [scrCells] at hB hb HA ⊢
  have c5 := hB.cell 5
  have HB := Lib.hid hB
  clear hB
  by_cases h200 : 200 < acts.length
  · have g : (200 : Int) < (acts.length : Int) := by omega
    go_enter Tryz.func32, Tryz.ntmps32
    go_wp2
    go_ret
    exact ⟨muchR_t _, hb⟩
  have g : ¬ (200 : Int) < (acts.length : Int) := by omega
  go_enter Tryz.func32, Tryz.ntmps32
  go_wp2
  clear g
  go_loopw [3, 4] (fun n i wr => ∃ k : Nat, k ≤ acts.length ∧ i = .int .i64 k ∧ n = .int .i64 (weighs (acts.take k)) ∧ Below w.heap.size w wr ∧ Hid (Blk wr w.heap.size 63 [.int .i64 nodes, .int .i64 capacity, .int .i64 frames, .int .i64 quorum, .int .i64 delay, .slice pa acts.length pc]) ∧ Hid (ActsAt wr pa acts) ∧ Hid (∀ a ∈ acts.take k, smallA a)) (fun _ i _ => acts.length - (intOf i).toNat)
  case atStart => exact ⟨0, Nat.zero_le _, rfl, rfl, hb, HB, HA, Lib.hid (by simp)⟩
  case round =>
    clear c5 hb HB HA
    obtain ⟨k, hk, rfl, rfl, hb, HB, HA, HS⟩ := hrel
    have c5 : wr.cell? ⟨w.heap.size, 5, none⟩ = some (.slice pa acts.length pc) := HB.out.cell 5
    by_cases hlt : k < acts.length
    · have hne : acts ≠ [] := fun e => by rw [e] at hlt; simp at hlt
      obtain ⟨a, ha⟩ : ∃ a, acts[k]? = some a := ⟨_, List.getElem?_eq_getElem hlt⟩
      obtain ⟨g, o, rfl, hg, hc⟩ := HA.out hne
      obtain ⟨pa2, pc2, hr, hp⟩ := hc k a ha
      have HX := Lib.hid ha
      have HR := Lib.hid hr
      clear hc ha hr hp hne
      have hlt2 : (k : Int) < (acts.length : Int) := by omega
      by_cases hs : smallA a
      · obtain ⟨s1, s2, s3, s4⟩ := hs
        have hsum := weighs_next HX.out
        have hwk : weighs (acts.take k) ≤ k * 8000 := by
          have := weighs_small (acts.take k) HS.out
          rw [List.length_take] at this
          omega
        have hwg : weigh a = a.op.key.size + a.op.til.size + a.op.value.size + a.picks.length := rfl
        have HSUM := Lib.hid hsum
        have HWG := Lib.hid hwg
        clear hsum hwg
        have HS1 := Lib.hid (show smallA a from ⟨s1, s2, s3, s4⟩)
        generalize weighs (acts.take k) = q at *
        go_wp2_with (first
          | (refine wpList_load_mid rfl 39 (.tmp 19) rfl g (o + k * 12) rfl (actCells a (.slice pa2 a.picks.length pc2)) _ HR.out Tryz.underlying39 rfl scr_info ?_)
          | (go_at_call 16; refine (great_no a HS1.out pa2 pc2 _).mono ?_; rintro e w1 ⟨rfl, hb1⟩
             have hr2 := rangeAt_below HR.out hb1 hg
             have q6 : w1.cell? ⟨g, o + k * 12 + 6, none⟩ = some (.string a.op.key) := hr2 6 _ rfl
             have q7 : w1.cell? ⟨g, o + k * 12 + 7, none⟩ = some (.string a.op.til) := hr2 7 _ rfl
             have q8 : w1.cell? ⟨g, o + k * 12 + 8, none⟩ = some (.string a.op.value) := hr2 8 _ rfl
             have q11 : w1.cell? ⟨g, o + k * 12 + 11, none⟩ = some (.slice pa2 a.picks.length pc2) := hr2 11 _ rfl
             have c5' : w1.cell? ⟨w.heap.size, 5, none⟩ = some (.slice (some ⟨g, o, none⟩) acts.length pc) := (hb1.cell (p := ⟨w.heap.size, 5, none⟩) HB.out.lt).trans c5
             clear hr2))
        go_quiet (fail)
        go_wp2
        go_roundw
        case rel =>
          refine ⟨k + 1, by omega, by go_num, ?_, hb.trans ((below_drewN hb1 _).mono hb.size), Lib.hid (HB.out.below (below_drewN hb1 _) HB.out.lt), Lib.hid (HA.out.below (below_drewN hb1 _)), Lib.hid (fun b hb2 => ?_)⟩
          · have hw : ∀ n : Int, 0 ≤ n → n < 1000000000 → IntKind.i64.wrap n = n := fun n _ _ => by rw [IntKind.wrap_i64]; omega
            rw [HSUM.out, HWG.out, hw ((q : Int) + (a.op.key.size : Int)) (by omega) (by omega), hw ((q : Int) + (a.op.key.size : Int) + (a.op.til.size : Int)) (by omega) (by omega), hw ((q : Int) + (a.op.key.size : Int) + (a.op.til.size : Int) + (a.op.value.size : Int)) (by omega) (by omega), hw ((q : Int) + (a.op.key.size : Int) + (a.op.til.size : Int) + (a.op.value.size : Int) + (a.picks.length : Int)) (by omega) (by omega)]
            congr 1; omega
          · rw [List.take_add_one, HX.out] at hb2
            rcases List.mem_append.1 hb2 with h | h
            · exact HS.out b h
            · simp at h; rw [h]; exact HS1.out
        case measure => simp [intOf]; omega
      · have HN := Lib.hid hs
        clear hs
        go_wp2_with (first
          | (refine wpList_load_mid rfl 39 (.tmp 19) rfl g (o + k * 12) rfl (actCells a (.slice pa2 a.picks.length pc2)) _ HR.out Tryz.underlying39 rfl scr_info ?_)
          | (go_at_call 16; refine (great_yes a HN.out pa2 pc2 _).mono ?_; rintro e w1 ⟨rfl, hb1⟩))
        go_ret
        exact ⟨muchR_t _, hb.trans (hb1.mono hb.size)⟩
    · obtain rfl : k = acts.length := by omega
      have htk : acts.take acts.length = acts := List.take_length
      rw [htk]
      have HSS := HS.out
      rw [htk] at HSS
      have HS2 := Lib.hid HSS
      clear HSS htk
      by_cases hsum : 60000 < weighs acts
      · have gs : (60000 : Int) < (weighs acts : Int) := by omega
        clear hsum
        go_wp2
        go_ret
        exact ⟨muchR_t _, hb⟩
      · have gs : ¬ (60000 : Int) < (weighs acts : Int) := by omega
        go_wp2
        go_ret
        exact ⟨muchR_f ⟨by simp only; omega, HS2.out, by simp only; omega⟩, hb⟩
end Go.Proofs.YtgplaeopcejmoaaGreatDoor
namespace Go.Proofs.YtgplaeopcejmoaaGreatDoor
open Go.RowKit Go.Shelf

theorem wtx_le (s : ByteArray) : (wtx s).size ≤ 3 * s.size + 2 := by
  have := wordL_length (bs s)
  rw [bs_length] at this
  show (wordL (bs s)).toArray.size ≤ _
  rw [List.size_toArray]; exact this
theorem joinS_size (l : List ByteArray) : (joinS l).size ≤ tot l + l.length := by
  have := join_len l [32]
  simp only [List.length_cons, List.length_nil] at this
  unfold joinS
  show (Lib.join _ [32]).toArray.size ≤ _
  rw [List.size_toArray]; omega
theorem opText_weigh (o : Opr) (ok : OprOk o) : (opText o).size ≤ 120 + 3 * (o.key.size + o.til.size + o.value.size) := by
  unfold opText opWords
  generalize (getI namedL o.kind).getD 0 = m
  have t0 : tot [opName o.kind] ≤ 10 := by rw [tot_one]; exact opName_size _
  have n0 : ([opName o.kind] : List ByteArray).length ≤ 1 := Nat.le_refl _
  have t1 := addF_totle t0 m 1 (dec_size ok.n); have n1 := addF_le n0 m 1 (dec o.n)
  have t2 := addF_totle t1 m 2 (dec_size ok.lsn); have n2 := addF_le n1 m 2 (dec o.lsn)
  have t3 := addF_totle t2 m 4 (wtx_le o.key); have n3 := addF_le n2 m 4 (wtx o.key)
  have t4 := addF_totle t3 m 8 (wtx_le o.til); have n4 := addF_le n3 m 8 (wtx o.til)
  have t5 := addF_totle t4 m 16 (wtx_le o.value); have n5 := addF_le n4 m 16 (wtx o.value)
  have t6 := addF_totle t5 m 32 (ito_size ok.level.1 ok.level.2); have n6 := addF_le n5 m 32 (ito o.level)
  have h := joinS_size (addF m 32 (ito o.level) (addF m 16 (wtx o.value) (addF m 8 (wtx o.til) (addF m 4 (wtx o.key) (addF m 2 (dec o.lsn) (addF m 1 (dec o.n) [opName o.kind]))))))
  omega
theorem actText_weigh (a : Ar) (ok : ActOk a) : (actText a).size ≤ 220 + 22 * weigh a := by
  unfold actText actWords
  generalize (getI ofActL a.kind).getD 0 = m
  have hop := opText_weigh a.op ok.op
  have t0 : tot [actName a.kind] ≤ 10 := by rw [tot_one]; exact actName_size _
  have n0 : ([actName a.kind] : List ByteArray).length ≤ 1 := Nat.le_refl _
  have t1 := addA1_totle t0 m 1 ok.node; have n1 := addA_le n0 m 1 [a.node]
  have t2 := addA1_totle t1 m 2 ok.source; have n2 := addA_le n1 m 2 [a.source]
  have t3 := addA1_totle t2 m 4 ok.n; have n3 := addA_le n2 m 4 [a.n]
  have t4 := addF_totle t3 m 8 hop; have n4 := addF_le n3 m 8 (opText a.op)
  have t5 := addA_totle t4 m 16 ok.picks; have n5 := addA_le n4 m 16 a.picks
  have h := joinS_size (addA m 16 a.picks (addF m 8 (opText a.op) (addA m 4 [a.n] (addA m 2 [a.source] (addA m 1 [a.node] [actName a.kind])))))
  simp only [List.length_singleton] at n1 n2 n3 n4 n5
  unfold weigh
  omega
theorem setNm_size (i : Nat) : (setNm i).size ≤ 8 := by
  unfold setNm
  split <;> decide
theorem setLine_size (s : Sup) (i : Nat) (h : IntOk (setNs s i)) : (setLine s i).size ≤ 30 := by
  have h1 := setNm_size i
  have h2 := ito_size h.1 h.2
  have h3 : (setLine s i).size = (setNm i).size + 1 + (ito (setNs s i)).size := by
    unfold setLine
    rw [← bs_length, joinS_two, List.length_append, List.length_cons, bs_length, bs_length]; omega
  omega
theorem lnB_len_cons (x : ByteArray) (l : List ByteArray) : (lnB (x :: l)).length = x.size + 1 + (lnB l).length := by
  rw [lnB_cons, List.length_append, List.length_cons, bs_length]; omega
theorem acts_len : ∀ l : List Ar, (∀ a ∈ l, ActOk a) → (lnB (l.map actText)).length ≤ 221 * l.length + 22 * weighs l
  | [], _ => by simp [lnB_nil, weighs]
  | a :: l, h => by
    have ih := acts_len l (fun b hb => h b (by simp [hb]))
    have ha := actText_weigh a (h a (by simp))
    rw [List.map_cons, lnB_len_cons, List.length_cons]
    unfold weighs at ih ⊢
    rw [List.map_cons, List.sum_cons]
    omega
theorem scr_len (s : Scr) (ok : ScrOk s) (n : Nat) (h1 : s.acts.length ≤ n) (h2 : weighs s.acts ≤ 300 * n) : (lnB (scrLines s)).length ≤ 155 + 6821 * n := by
  have h := acts_len s.acts ok.acts
  have e0 := setLine_size s.set 0 (ok.set 0); have e1 := setLine_size s.set 1 (ok.set 1); have e2 := setLine_size s.set 2 (ok.set 2); have e3 := setLine_size s.set 3 (ok.set 3); have e4 := setLine_size s.set 4 (ok.set 4)
  rw [scrLines_eq]
  simp only [lnB_len_cons]
  omega
theorem few_len {s : Scr} (ok : ScrOk s) (h : Few s) : (lnB (scrLines s)).length ≤ 1400000 := by
  have := scr_len s ok 200 h.len (by have := h.sum; omega)
  omega
theorem scrText_inj {a b : Scr} (ha : mayScr a = true) (hb : mayScr b = true) (oa : ScrOk a) (ob : ScrOk b) (la : a.acts.length ≤ 65536) (lb : b.acts.length ≤ 65536) (h : scrText a = scrText b) : a = b := by
  have h1 := parse_text ha oa la
  have h2 := parse_text hb ob lb
  rw [h, h2] at h1
  injection h1 with h1
  exact h1.symm
end Go.Proofs.YtgplaeopcejmoaaGreatDoor
