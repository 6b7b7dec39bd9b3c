/- Words of the call's own (a row of texts), and OpText's closure. What operations' texts are, in plain words; strings.Join of texts of the call's own. The walk of OpText. -/
import Derived.Test.YtgplaeopcejmoaaGreatDoorMayop
import Derived.Test.YtgplaeopcejmoaaGreatDoorIter
namespace Go.Proofs.YtgplaeopcejmoaaGreatDoor
open Go.RowKit

theorem infoStr : (Tryz.prog.info? 9).map (fun i => (i.zero, i.size, i.bytes)) = some (some (.string ⟨#[]⟩), 1, 16) := by kernel_rfl
/-- the cells of texts -/
def cellsS (l : List ByteArray) : List Value := l.map .string
theorem cellsS_append (a b : List ByteArray) : cellsS (a ++ b) = cellsS a ++ cellsS b := by simp [cellsS]
theorem cellsS_one (l : List ByteArray) : ∀ u ∈ cellsS l, u.oneCell' = true := by
  intro u hu
  obtain ⟨b, _, rfl⟩ := List.mem_map.1 hu
  rfl
def OwnS (w : World) (base : Nat) (v : Value) (l : List ByteArray) : Prop := w.ownsRow base 9 1 v l.length (cellsS l)
theorem OwnS.nil (w : World) (base : Nat) : OwnS w base (.slice none 0 0) [] := World.ownsRow_nil _ _ _ _
theorem OwnS.below {w w' : World} {base : Nat} {v : Value} {l : List ByteArray} (h : OwnS w base v l) (hb : Below w.heap.size w w') : OwnS w' base v l := own_below h hb

theorem append_s (w : World) (base : Nat) (v : Value) (xs : List ByteArray) (hown : OwnS w base v xs) (hn : xs.length ≤ 100000) (hbase : base ≤ w.heap.size) (ad : Addr) (m c : Nat) (news : List ByteArray) (hm : m = news.length) (hn2 : m ≤ 100000)
    (hnews : ∀ j u, (cellsS news)[j]? = some u → w.cell? (ad.add j) = some u) (ty : TypeId) :
    ∃ v' w', (∀ cs, (builtin .append #[48, 48] ty cs #[v, .slice (some ad) m c]).run Tryz.prog w = .ok (.value v') w') ∧ OwnS w' base v' (xs ++ news) ∧ w.grownBy w' v.ownBlock := by
  subst hm
  obtain ⟨i0, hi0, hz0, hz1, hz2⟩ := info_parts infoStr
  obtain ⟨v', w', hr, h1, h2, _⟩ := run_append_own (P := Tryz.prog) w base 48 ty 9 i0 _ 1 16 Tryz.underlying48 hi0 hz0 hz1 hz2 rfl (by omega) v xs.length (cellsS xs) hown ad news.length c (cellsS news) (by simp [cellsS]) hnews (cellsS_one _) (by unfold maxLen; omega) (by omega) hbase
  refine ⟨v', w', fun _ => by simp only [builtin, Sem.run_bind, hr, Result.andThen_ok, Sem.run_pure], ?_, h2⟩
  unfold OwnS
  rw [List.length_append, cellsS_append]
  exact h1
end Go.Proofs.YtgplaeopcejmoaaGreatDoor
namespace Go.Proofs.YtgplaeopcejmoaaGreatDoor
open Go.RowKit

def opName (k : Int) : ByteArray := if 1 ≤ k then (opNames[(k - 1).toNat]?).getD ⟨#[]⟩ else ⟨#[]⟩
def addF (m f : Int) (x : ByteArray) (l : List ByteArray) : List ByteArray := if hasF m f then l ++ [x] else l
def opWords (o : Opr) (m : Int) : List ByteArray :=
  addF m 32 (ito o.level) (addF m 16 (wtx o.value) (addF m 8 (wtx o.til) (addF m 4 (wtx o.key) (addF m 2 (dec o.lsn) (addF m 1 (dec o.n) [opName o.kind])))))
def joinS (l : List ByteArray) : ByteArray := ⟨(Lib.join (l.map fun x => x.data.toList) [32]).toArray⟩
def opText (o : Opr) : ByteArray := joinS (opWords o ((getI namedL o.kind).getD 0))
def opTextR (o : Opr) : Value := if mayOp o then .tuple #[.string (opText o), .int .i64 0] else .tuple #[.string ⟨#[]⟩, .int .i64 2]

theorem addF_length (m f : Int) (x : ByteArray) (l : List ByteArray) : (addF m f x l).length ≤ l.length + 1 := by
  unfold addF; split <;> simp
theorem lens_app (a b : List Bs) : Lib.lens (a ++ b) = Lib.lens a + Lib.lens b := by simp [Lib.lens]
/-- how much texts hold in all -/
def tot (l : List ByteArray) : Nat := Lib.lens (l.map fun x => x.data.toList)
theorem tot_app (a b : List ByteArray) : tot (a ++ b) = tot a + tot b := by simp [tot, lens_app]
theorem tot_one (x : ByteArray) : tot [x] = x.size := by
  have := bs_length x
  simp only [tot, Lib.lens, List.map_cons, List.map_nil, List.sum_cons, List.sum_nil, Nat.add_zero]
  exact this
theorem addF_tot (m f : Int) (x : ByteArray) (l : List ByteArray) : tot (addF m f x l) ≤ tot l + x.size := by
  unfold addF; split
  · rw [tot_app, tot_one]; omega
  · omega
theorem join_len (l : List ByteArray) (sep : Bs) : (Lib.join (l.map fun x => x.data.toList) sep).length ≤ tot l + sep.length * l.length := by
  cases l with
  | nil => simp [Lib.join_nil]
  | cons a r =>
    rw [List.map_cons, Lib.join_cons, List.length_append, Lib.joinTail_length]
    simp only [tot, Lib.lens, List.map_cons, List.sum_cons, List.length_map, List.length_cons, Nat.mul_succ]
    omega

theorem join_own {base : Nat} {v : Value} {xs : List ByteArray} {w : World} (h : OwnS w base v xs) (hN : xs.length ≤ 1000000) (ht : tot xs ≤ 1000000000) :
    Calls Tryz.prog 56 #[v, .string ⟨#[32]⟩] w fun e w' => e = .returned (.string (joinS xs)) ∧ Below w.heap.size w w' := by
  have hl := join_len xs [32]
  simp only [List.length_cons, List.length_nil] at hl
  rcases h.2 with ⟨rfl, h0⟩ | ⟨g, cap, cur, rfl, _, hg, hcap, _, _, _⟩
  · have : xs = [] := List.eq_nil_of_length_eq_zero h0
    subst this
    exact (Tryz.strings_Join_none none 0 ⟨#[32]⟩ w).mono fun e w' ⟨he, hw⟩ => ⟨he, hw ▸ Below.refl _ _⟩
  · have hc := World.ownsRow.cells h (g := g) rfl
    refine Tryz.strings_Join g 0 cap xs ⟨#[32]⟩ w (fun j x hx => ?_) (Array.getElem?_eq_some_iff.1 hg).1 (by omega) hcap (by show (Lib.join _ [32]).length ≤ _; omega)
    have := hc j (.string x) (by simp [cellsS, hx])
    rw [Addr.add_lit] at this
    exact this
end Go.Proofs.YtgplaeopcejmoaaGreatDoor
namespace Go.Proofs.YtgplaeopcejmoaaGreatDoor
open Go.RowKit Go.Shelf

attribute [local go_sem] Oper.semAt_some

theorem own_ne {w : World} {base k : Nat} {v : Value} {l : List ByteArray} {ob : Obj} (ho : OwnS w base v l) (hk : w.heap[k]? = some ob) (hob : ∀ cur, ob ≠ .cells cur 9 (0, 0)) : some k ≠ v.ownBlock := by
  intro e
  rcases ho.2 with ⟨rfl, _⟩ | ⟨g, cap, cur, rfl, _, hg, _⟩
  · simp [Value.ownBlock] at e
  · obtain rfl : k = g := by simpa [Value.ownBlock] using e
    rw [hk] at hg
    exact hob cur (by injection hg)

/-- what stands while an operation's words are gathered: its box, the names, the words, the block for deferred calls -/
structure After (B : Nat) (w0 w : World) (o : Opr) (m : Int) (nb sb D : Nat) (l : List ByteArray) : Prop where
  base : B = w0.heap.size + 1
  below : Below w0.heap.size w0 w
  box : Blk w w0.heap.size 34 (opCells o)
  nam : Blk w nb 3 [.int .i64 m]
  row : ∃ v, Blk w sb 48 [v] ∧ OwnS w B v l
  dfr : w.heap[D]? = some (.deferred (some []))
  nbB : w0.heap.size < nb
  sbB : w0.heap.size < sb
  dB : w0.heap.size < D
theorem After.next {B : Nat} {w0 w w' : World} {o : Opr} {m : Int} {nb sb D : Nat} {l : List ByteArray} (h : After B w0 w o m nb sb D l) (hb : Below w.heap.size w w') : After B w0 w' o m nb sb D l where
  base := h.base
  below := h.below.trans (hb.mono h.below.size)
  box := h.box.below hb h.box.lt
  nam := h.nam.below hb h.nam.lt
  row := by
    obtain ⟨v, h1, h2⟩ := h.row
    exact ⟨v, h1.below hb h1.lt, h2.below hb⟩
  dfr := (hb.block D (Array.getElem?_eq_some_iff.1 h.dfr).1).trans h.dfr
  nbB := h.nbB
  sbB := h.sbB
  dB := h.dB

theorem wpList_append_s {w : World} {ops : Array Oper} {rest : List Oper} {o : Oper} {a : Act} {Q : Exit → Act → World → Prop} (hgd : o.guard = none) (s x : Operand)
    (ho : o.op = .call { callee := .builtin .append, args := #[s, x], argTypes := #[48, 48] }) (base : Nat) (v : Value) (xs : List ByteArray) (ad : Addr) (m c : Nat) (news : List ByteArray) (hs : a.eval s = v) (hx : a.eval x = .slice (some ad) m c)
    (hown : OwnS w base v xs) (hn : xs.length ≤ 100000) (hbase : base ≤ w.heap.size) (hm : m = news.length) (hn2 : m ≤ 100000) (hnews : ∀ j u, (cellsS news)[j]? = some u → w.cell? (ad.add j) = some u)
    (h : ∀ v' w', OwnS w' base v' (xs ++ news) → w.grownBy w' v.ownBlock → wpList Tryz.prog ops Q rest (a.put o.dst v') w') : wpList Tryz.prog ops Q (o :: rest) a w := by
  obtain ⟨v', w', hr, h1, h2⟩ := append_s w base v xs hown hn hbase ad m c news hm hn2 hnews o.type
  exact wpList_two hgd .append s x #[48, 48] ho v _ hs hx hr (h v' w' h1 h2)
theorem OwnS.form {w : World} {base : Nat} {v : Value} {l : List ByteArray} (h : OwnS w base v l) (hl : l ≠ []) : ∃ g cap, v = .slice (some ⟨g, 0, none⟩) l.length cap ∧ base ≤ g ∧ g < w.heap.size :=
  World.ownsRow.form h (List.length_pos_iff.2 hl)
theorem news_s (w : World) (l : List ByteArray) (j : Nat) (u : Value) (h : (cellsS l)[j]? = some u) : (w.alloc (.cells (cellsS l).toArray 9)).cell? ((⟨w.heap.size, 0, none⟩ : Addr).add j) = some u := by
  rw [Addr.add_lit]
  have := (Blk.new w 9 (cellsS l)).cell (0 + j)
  rw [this, Nat.zero_add]; exact h
theorem own_size {w : World} {base : Nat} {v : Value} {l : List ByteArray} (h : OwnS w base v l) : ∀ k, v.ownBlock = some k → base ≤ k := by
  intro k e
  rcases h.2 with ⟨rfl, _⟩ | ⟨g, cap, cur, rfl, hb, _⟩
  · simp [Value.ownBlock] at e
  · obtain rfl : g = k := by simpa [Value.ownBlock] using e
    exact hb

/-- the append and the store back: what stands -/
theorem After.told {B : Nat} {w0 w w1 : World} {o : Opr} {m : Int} {nb sb D : Nat} {l : List ByteArray} (h : After B w0 w o m nb sb D l) {v : Value} (hs : Blk w sb 48 [v]) (ho : OwnS w B v l) {tmp : Obj} {v' : Value} {l' : List ByteArray}
    (ho1 : OwnS w1 B v' l') (hg : (w.alloc tmp).grownBy w1 v.ownBlock) : After B w0 (w1.setCell ⟨sb, 0, none⟩ v') o m nb sb D l' := by
  have hsz : w.heap.size ≤ (w.alloc tmp).heap.size := by simp
  have nsb : some sb ≠ v.ownBlock := own_ne ho hs (by intro cur e; injection e with _ e; exact absurd e (by decide))
  have nsb0 : sb ≠ w0.heap.size := by have := h.sbB; omega
  have nnb : sb ≠ nb := by
    intro e
    have h1 := h.nam
    rw [← e] at h1
    have := hs.symm.trans h1
    simp at this
  have ndf : sb ≠ D := by
    intro e
    have h1 := h.dfr
    rw [← e] at h1
    have := hs.symm.trans h1
    simp at this
  have hs1 : Blk w1 sb 48 [v] := (hs.alloc tmp).grown hg nsb
  refine ⟨h.base, ?_, ?_, ?_, ⟨v', ?_, ?_⟩, ?_, h.nbB, h.sbB, h.dB⟩
  · have hb : Below w0.heap.size w0 w1 := (h.below.alloc h.below.size tmp).grown hg (by have := h.below.size; omega) (fun k e => by have := own_size ho k e; have := h.base; omega)
    exact hb.setCell (p := ⟨sb, 0, none⟩) (Nat.le_of_lt h.sbB) v'
  · exact ((h.box.alloc tmp).grown hg (own_ne ho h.box (by intro cur e; injection e with _ e; exact absurd e (by decide)))).setOther (Ne.symm nsb0) _ _
  · exact ((h.nam.alloc tmp).grown hg (own_ne ho h.nam (by intro cur e; injection e with _ e; exact absurd e (by decide)))).setOther (Ne.symm nnb) _ _
  · have := hs1.setCell 0 v' (by simp)
    simpa using this
  · exact World.ownsRow.kept ho1 (grown_setCell _ _ _ _) (.inr (Ne.symm (own_ne ho1 hs1 (by intro cur e; injection e with _ e; exact absurd e (by decide)))))
  · have hD : (w.alloc tmp).heap[D]? = some (.deferred (some [])) := (Below.heap_alloc w tmp D (Array.getElem?_eq_some_iff.1 h.dfr).1).trans h.dfr
    have hD1 : w1.heap[D]? = some (.deferred (some [])) := (hg.block D (Array.getElem?_eq_some_iff.1 hD).1 (own_ne ho h.dfr (by intro cur e; cases e))).trans hD
    exact (Below.heap_setCell _ _ _ _ (Ne.symm ndf)).trans hD1

set_option maxRecDepth 100000 in
set_option maxHeartbeats 1000000 in
theorem tell_any (B : Nat) (w0 w : World) (o : Opr) (m : Int) (nb sb D : Nat) (l : List ByteArray) (f : Int) (x : ByteArray) (HA : After B w0 w o m nb sb D l) (hl : l.length ≤ 1000) :
    Calls Tryz.prog 53 #[.int .i64 f, .string x, .pointer (some ⟨nb, 0, none⟩), .pointer (some ⟨sb, 0, none⟩)] w fun e w' => (∃ r, e = .returned r) ∧ After B w0 w' o m nb sb D (addF m f x l) := by
  obtain ⟨v, hs, ho⟩ := HA.row
  have cn : w.cell? ⟨nb, 0, none⟩ = some (.int .i64 m) := HA.nam.cell 0
  have cs : w.cell? ⟨sb, 0, none⟩ = some v := hs.cell 0
  have fs := hs.frozen 0
  obtain ⟨i0, hi, hz0, hz1, hz2⟩ := info_parts infoStr
  have hbits : (bits .and .i64 m f != 0) = hasF m f := rfl
  unfold addF
  cases hf : hasF m f with
  | false =>
    rw [hf] at hbits
    go_enter Tryz.func53, Tryz.ntmps53
    go_wp2
    go_end0
    exact ⟨⟨_, rfl⟩, HA⟩
  | true =>
    rw [hf] at hbits
    go_enter Tryz.func53, Tryz.ntmps53
    have hbz : B ≤ w.heap.size := by have h1 := HA.below.size; have h2 := HA.base; have h3 := HA.box.lt; omega
    go_wp2_with (refine wpList_append_s rfl _ _ rfl B v l ⟨w.heap.size, 0, none⟩ 1 1 [x] rfl rfl (World.ownsRow.kept ho (World.grownBy_alloc w _ none) (by cases e : v.ownBlock with | none => exact .inl rfl | some g => exact .inr (by simp))) (by omega) (by simp; omega) rfl (by omega) (news_s w [x]) ?_; intro v' w1 ho1 hg1
                 have HT := HA.told hs ho ho1 hg1
                 obtain ⟨g1, cap1, rfl, _, _⟩ := ho1.form (by simp)
                 have hs1 : Blk w1 sb 48 [v] := (hs.alloc _).grown hg1 (own_ne ho hs (by intro cur e; injection e with _ e; exact absurd e (by decide)))
                 have cs1 : w1.cell? ⟨sb, 0, none⟩ = some v := hs1.cell 0
                 have fs1 := hs1.frozen 0)
    go_end0
    exact ⟨⟨_, rfl⟩, by simpa using HT⟩
end Go.Proofs.YtgplaeopcejmoaaGreatDoor
