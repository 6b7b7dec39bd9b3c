/- The walk of OpText. -/
import Derived.Test.YtgplaeopcejmoaaGreatDoorSpec
namespace Go.Proofs.YtgplaeopcejmoaaGreatDoor
open Go.RowKit Go.Shelf

attribute [local go_sem] Oper.semAt_some

theorem own_ne {w : World} {base k : Nat} {v : Value} {l : List ByteArray} {ob : Obj} (ho : OwnS w base v l) (hk : w.heap[k]? = some ob) (hob : ∀ cur, ob ≠ .cells cur 9 (0, 0)) : some k ≠ v.ownBlock := by
  intro e
  rcases ho.2 with ⟨rfl, _⟩ | ⟨g, cap, cur, rfl, _, hg, _⟩
  · simp [Value.ownBlock] at e
  · obtain rfl : k = g := by simpa [Value.ownBlock] using e
    rw [hk] at hg
    exact hob cur (by injection hg)

/-- what stands while an operation's words are gathered: its box, the names, the words, the block for deferred calls -/
structure After (B : Nat) (w0 w : World) (o : Opr) (m : Int) (nb sb D : Nat) (l : List ByteArray) : Prop where
  base : B = w0.heap.size + 1
  below : Below w0.heap.size w0 w
  box : Blk w w0.heap.size 34 (opCells o)
  nam : Blk w nb 3 [.int .i64 m]
  row : ∃ v, Blk w sb 48 [v] ∧ OwnS w B v l
  dfr : w.heap[D]? = some (.deferred (some []))
  nbB : w0.heap.size < nb
  sbB : w0.heap.size < sb
  dB : w0.heap.size < D
theorem After.next {B : Nat} {w0 w w' : World} {o : Opr} {m : Int} {nb sb D : Nat} {l : List ByteArray} (h : After B w0 w o m nb sb D l) (hb : Below w.heap.size w w') : After B w0 w' o m nb sb D l where
  base := h.base
  below := h.below.trans (hb.mono h.below.size)
  box := h.box.below hb h.box.lt
  nam := h.nam.below hb h.nam.lt
  row := by
    obtain ⟨v, h1, h2⟩ := h.row
    exact ⟨v, h1.below hb h1.lt, h2.below hb⟩
  dfr := (hb.block D (Array.getElem?_eq_some_iff.1 h.dfr).1).trans h.dfr
  nbB := h.nbB
  sbB := h.sbB
  dB := h.dB

theorem wpList_append_s {w : World} {ops : Array Oper} {rest : List Oper} {o : Oper} {a : Act} {Q : Exit → Act → World → Prop} (hgd : o.guard = none) (s x : Operand)
    (ho : o.op = .call { callee := .builtin .append, args := #[s, x], argTypes := #[48, 48] }) (base : Nat) (v : Value) (xs : List ByteArray) (ad : Addr) (m c : Nat) (news : List ByteArray) (hs : a.eval s = v) (hx : a.eval x = .slice (some ad) m c)
    (hown : OwnS w base v xs) (hn : xs.length ≤ 100000) (hbase : base ≤ w.heap.size) (hm : m = news.length) (hn2 : m ≤ 100000) (hnews : ∀ j u, (cellsS news)[j]? = some u → w.cell? (ad.add j) = some u)
    (h : ∀ v' w', OwnS w' base v' (xs ++ news) → w.grownBy w' v.ownBlock → wpList Tryz.prog ops Q rest (a.put o.dst v') w') : wpList Tryz.prog ops Q (o :: rest) a w := by
  obtain ⟨v', w', hr, h1, h2⟩ := append_s w base v xs hown hn hbase ad m c news hm hn2 hnews o.type
  exact wpList_two hgd .append s x #[48, 48] ho v _ hs hx hr (h v' w' h1 h2)
theorem OwnS.form {w : World} {base : Nat} {v : Value} {l : List ByteArray} (h : OwnS w base v l) (hl : l ≠ []) : ∃ g cap, v = .slice (some ⟨g, 0, none⟩) l.length cap ∧ base ≤ g ∧ g < w.heap.size :=
  World.ownsRow.form h (List.length_pos_iff.2 hl)
theorem news_s (w : World) (l : List ByteArray) (j : Nat) (u : Value) (h : (cellsS l)[j]? = some u) : (w.alloc (.cells (cellsS l).toArray 9)).cell? ((⟨w.heap.size, 0, none⟩ : Addr).add j) = some u := by
  rw [Addr.add_lit]
  have := (Blk.new w 9 (cellsS l)).cell (0 + j)
  rw [this, Nat.zero_add]; exact h
theorem own_size {w : World} {base : Nat} {v : Value} {l : List ByteArray} (h : OwnS w base v l) : ∀ k, v.ownBlock = some k → base ≤ k := by
  intro k e
  rcases h.2 with ⟨rfl, _⟩ | ⟨g, cap, cur, rfl, hb, _⟩
  · simp [Value.ownBlock] at e
  · obtain rfl : g = k := by simpa [Value.ownBlock] using e
    exact hb

/-- the append and the store back: what stands -/
theorem After.told {B : Nat} {w0 w w1 : World} {o : Opr} {m : Int} {nb sb D : Nat} {l : List ByteArray} (h : After B w0 w o m nb sb D l) {v : Value} (hs : Blk w sb 48 [v]) (ho : OwnS w B v l) {tmp : Obj} {v' : Value} {l' : List ByteArray}
    (ho1 : OwnS w1 B v' l') (hg : (w.alloc tmp).grownBy w1 v.ownBlock) : After B w0 (w1.setCell ⟨sb, 0, none⟩ v') o m nb sb D l' := by
  have hsz : w.heap.size ≤ (w.alloc tmp).heap.size := by simp
  have nsb : some sb ≠ v.ownBlock := own_ne ho hs (by intro cur e; injection e with _ e; exact absurd e (by decide))
  have nsb0 : sb ≠ w0.heap.size := by have := h.sbB; omega
  have nnb : sb ≠ nb := by
    intro e
    have h1 := h.nam
    rw [← e] at h1
    have := hs.symm.trans h1
    simp at this
  have ndf : sb ≠ D := by
    intro e
    have h1 := h.dfr
    rw [← e] at h1
    have := hs.symm.trans h1
    simp at this
  have hs1 : Blk w1 sb 48 [v] := (hs.alloc tmp).grown hg nsb
  refine ⟨h.base, ?_, ?_, ?_, ⟨v', ?_, ?_⟩, ?_, h.nbB, h.sbB, h.dB⟩
  · have hb : Below w0.heap.size w0 w1 := (h.below.alloc h.below.size tmp).grown hg (by have := h.below.size; omega) (fun k e => by have := own_size ho k e; have := h.base; omega)
    exact hb.setCell (p := ⟨sb, 0, none⟩) (Nat.le_of_lt h.sbB) v'
  · exact ((h.box.alloc tmp).grown hg (own_ne ho h.box (by intro cur e; injection e with _ e; exact absurd e (by decide)))).setOther (Ne.symm nsb0) _ _
  · exact ((h.nam.alloc tmp).grown hg (own_ne ho h.nam (by intro cur e; injection e with _ e; exact absurd e (by decide)))).setOther (Ne.symm nnb) _ _
  · have := hs1.setCell 0 v' (by simp)
    simpa using this
  · exact World.ownsRow.kept ho1 (grown_setCell _ _ _ _) (.inr (Ne.symm (own_ne ho1 hs1 (by intro cur e; injection e with _ e; exact absurd e (by decide)))))
  · have hD : (w.alloc tmp).heap[D]? = some (.deferred (some [])) := (Below.heap_alloc w tmp D (Array.getElem?_eq_some_iff.1 h.dfr).1).trans h.dfr
    have hD1 : w1.heap[D]? = some (.deferred (some [])) := (hg.block D (Array.getElem?_eq_some_iff.1 hD).1 (own_ne ho h.dfr (by intro cur e; cases e))).trans hD
    exact (Below.heap_setCell _ _ _ _ (Ne.symm ndf)).trans hD1

set_option maxRecDepth 100000 in
set_option maxHeartbeats 1000000 in
theorem tell_any (B : Nat) (w0 w : World) (o : Opr) (m : Int) (nb sb D : Nat) (l : List ByteArray) (f : Int) (x : ByteArray) (HA : After B w0 w o m nb sb D l) (hl : l.length ≤ 1000) :
    Calls Tryz.prog 53 #[.int .i64 f, .string x, .pointer (some ⟨nb, 0, none⟩), .pointer (some ⟨sb, 0, none⟩)] w fun e w' => (∃ r, e = .returned r) ∧ After B w0 w' o m nb sb D (addF m f x l) := by
  obtain ⟨v, hs, ho⟩ := HA.row
  have cn : w.cell? ⟨nb, 0, none⟩ = some (.int .i64 m) := HA.nam.cell 0
  have cs : w.cell? ⟨sb, 0, none⟩ = some v := hs.cell 0
  have fs := hs.frozen 0
  obtain ⟨i0, hi, hz0, hz1, hz2⟩ := info_parts infoStr
  have hbits : (bits .and .i64 m f != 0) = hasF m f := rfl
  unfold addF
  cases hf : hasF m f with
  | false =>
    rw [hf] at hbits
    go_enter Tryz.func53, Tryz.ntmps53
    go_wp2
    go_end0
    exact ⟨⟨_, rfl⟩, HA⟩
  | true =>
    rw [hf] at hbits
    go_enter Tryz.func53, Tryz.ntmps53
    have hbz : B ≤ w.heap.size := by have h1 := HA.below.size; have h2 := HA.base; have h3 := HA.box.lt; omega
    go_wp2_with (refine wpList_append_s rfl _ _ rfl B v l ⟨w.heap.size, 0, none⟩ 1 1 [x] rfl rfl (World.ownsRow.kept ho (World.grownBy_alloc w _ none) (by cases e : v.ownBlock with | none => exact .inl rfl | some g => exact .inr (by simp))) (by omega) (by simp; omega) rfl (by omega) (news_s w [x]) ?_; intro v' w1 ho1 hg1
                 have HT := HA.told hs ho ho1 hg1
                 obtain ⟨g1, cap1, rfl, _, _⟩ := ho1.form (by simp)
                 have hs1 : Blk w1 sb 48 [v] := (hs.alloc _).grown hg1 (own_ne ho hs (by intro cur e; injection e with _ e; exact absurd e (by decide)))
                 have cs1 : w1.cell? ⟨sb, 0, none⟩ = some v := hs1.cell 0
                 have fs1 := hs1.frozen 0)
    go_end0
    exact ⟨⟨_, rfl⟩, by simpa using HT⟩
end Go.Proofs.YtgplaeopcejmoaaGreatDoor
