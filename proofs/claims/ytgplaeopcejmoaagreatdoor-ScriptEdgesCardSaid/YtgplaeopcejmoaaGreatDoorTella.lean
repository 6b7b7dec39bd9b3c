/- Words of the call's own, and ActText's closure. -/
import Derived.Test.YtgplaeopcejmoaaGreatDoorOptxt
import Derived.Deep.LoopGhost
namespace Go.Proofs.YtgplaeopcejmoaaGreatDoor
open Go.RowKit Go.Shelf

/-- what stands while an act's words are gathered -/
structure Af (B : Nat) (w0 w : World) (T : TypeId) (C : List Value) (m : Int) (nb sb : Nat) (l : List ByteArray) : Prop where
  base : B = w0.heap.size + 1
  below : Below w0.heap.size w0 w
  box : Blk w w0.heap.size T C
  nam : Blk w nb 3 [.int .i64 m]
  row : ∃ v, Blk w sb 48 [v] ∧ OwnS w B v l
  nbB : w0.heap.size < nb
  sbB : w0.heap.size < sb
theorem Af.next {B : Nat} {w0 w w' : World} {T : TypeId} {C : List Value} {m : Int} {nb sb : Nat} {l : List ByteArray} (h : Af B w0 w T C m nb sb l) (hb : Below w.heap.size w w') : Af B w0 w' T C m nb sb l where
  base := h.base
  below := h.below.trans (hb.mono h.below.size)
  box := h.box.below hb h.box.lt
  nam := h.nam.below hb h.nam.lt
  row := by
    obtain ⟨v, h1, h2⟩ := h.row
    exact ⟨v, h1.below hb h1.lt, h2.below hb⟩
  nbB := h.nbB
  sbB := h.sbB
theorem Af.told {B : Nat} {w0 w w1 : World} {T : TypeId} {C : List Value} {m : Int} {nb sb : Nat} {l : List ByteArray} (h : Af B w0 w T C m nb sb l) (hT : T ≠ 9) {v : Value} (hs : Blk w sb 48 [v]) (ho : OwnS w B v l) {tmp : Obj} {v' : Value} {l' : List ByteArray}
    (ho1 : OwnS w1 B v' l') (hg : (w.alloc tmp).grownBy w1 v.ownBlock) : Af B w0 (w1.setCell ⟨sb, 0, none⟩ v') T C m nb sb l' := by
  have nsb : some sb ≠ v.ownBlock := own_ne ho hs (by intro cur e; injection e with _ e; exact absurd e (by decide))
  have nsb0 : sb ≠ w0.heap.size := by have := h.sbB; omega
  have nnb : sb ≠ nb := by
    intro e
    have h1 := h.nam
    rw [← e] at h1
    have := hs.symm.trans h1
    simp at this
  have hs1 : Blk w1 sb 48 [v] := (hs.alloc tmp).grown hg nsb
  refine ⟨h.base, ?_, ?_, ?_, ⟨v', ?_, ?_⟩, h.nbB, h.sbB⟩
  · have hb : Below w0.heap.size w0 w1 := (h.below.alloc h.below.size tmp).grown hg (by have := h.below.size; simp; omega) (fun k e => by have := own_size ho k e; have := h.base; omega)
    exact hb.setCell (p := ⟨sb, 0, none⟩) (Nat.le_of_lt h.sbB) v'
  · exact ((h.box.alloc tmp).grown hg (own_ne ho h.box (by intro cur e; injection e with _ e; exact absurd e hT))).setOther (Ne.symm nsb0) _ _
  · exact ((h.nam.alloc tmp).grown hg (own_ne ho h.nam (by intro cur e; injection e with _ e; exact absurd e (by decide)))).setOther (Ne.symm nnb) _ _
  · have := hs1.setCell 0 v' (by simp)
    simpa using this
  · exact World.ownsRow.kept ho1 (grown_setCell _ _ _ _) (.inr (Ne.symm (own_ne ho1 hs1 (by intro cur e; injection e with _ e; exact absurd e (by decide)))))

/-- ints that lie in memory: below B, or in a row of ints -/
def PicksAt (B : Nat) (W : World) (pa : Option Addr) (l : List Int) : Prop :=
  l ≠ [] → ∃ g o, pa = some ⟨g, o, none⟩ ∧ (g < B ∨ ∃ L, Blk W g 3 L) ∧ ∀ j x, l[j]? = some x → W.cell? ⟨g, o + j, none⟩ = some (.int .i64 x)
theorem PicksAt.keep {B : Nat} {W W' : World} {pa : Option Addr} {l : List Int} (h : PicksAt B W pa l) (hk : ∀ g, g < W.heap.size → (g < B ∨ ∃ L, Blk W g 3 L) → W'.heap[g]? = W.heap[g]?) : PicksAt B W' pa l := by
  intro hne
  obtain ⟨g, o, h1, h2, h3⟩ := h hne
  obtain ⟨x, hx⟩ : ∃ x, l[0]? = some x := by
    cases l with
    | nil => exact absurd rfl hne
    | cons x r => exact ⟨x, rfl⟩
  have hlt : g < W.heap.size := cell_lt (h3 0 x hx)
  have he := hk g hlt h2
  refine ⟨g, o, h1, ?_, fun j y hy => ?_⟩
  · rcases h2 with h2 | ⟨L, h2⟩
    · exact .inl h2
    · exact .inr ⟨L, he.trans h2⟩
  · rw [← h3 j y hy]
    simp only [World.cell?, he]
theorem PicksAt.below {B : Nat} {W W' : World} {pa : Option Addr} {l : List Int} (h : PicksAt B W pa l) (hb : Below W.heap.size W W') : PicksAt B W' pa l := h.keep fun g hg _ => hb.block g hg
theorem PicksAt.told {B : Nat} {w w1 : World} {pa : Option Addr} {ps : List Int} (h : PicksAt B w pa ps) {sb : Nat} (hsb : B ≤ sb) {v : Value} {l : List ByteArray} (hs : Blk w sb 48 [v]) (ho : OwnS w B v l) {tmp : Obj} {v' : Value} (hg : (w.alloc tmp).grownBy w1 v.ownBlock) : PicksAt B (w1.setCell ⟨sb, 0, none⟩ v') pa ps := by
  refine h.keep fun g hlt h2 => ?_
  have n1 : g ≠ sb := by
    rcases h2 with h2 | ⟨L, h2⟩
    · omega
    · intro e
      rw [e] at h2
      have := hs.symm.trans h2
      simp at this
  have n2 : some g ≠ v.ownBlock := by
    rcases h2 with h2 | ⟨L, h2⟩
    · intro e
      have := own_size ho g e.symm
      omega
    · exact own_ne ho h2 (by intro cur e; injection e with _ e; exact absurd e (by decide))
  exact (Below.heap_setCell _ _ _ _ n1).trans ((hg.block g (by simp; omega) n2).trans (Below.heap_alloc w tmp g hlt))

theorem step_append_s {w : World} {ops : Array Oper} {o : Oper} {a : Act} {K : Act → World → Prop} {Q : Exit → Act → World → Prop} {E : Prop} (hgd : o.guard = none) (s x : Operand)
    (ho : o.op = .call { callee := .builtin .append, args := #[s, x], argTypes := #[48, 48] }) (base : Nat) (v : Value) (xs : List ByteArray) (ad : Addr) (m c : Nat) (news : List ByteArray) (hs : a.eval s = v) (hx : a.eval x = .slice (some ad) m c)
    (hown : OwnS w base v xs) (hn : xs.length ≤ 100000) (hbase : base ≤ w.heap.size) (hm : m = news.length) (hn2 : m ≤ 100000) (hnews : ∀ j u, (cellsS news)[j]? = some u → w.cell? (ad.add j) = some u)
    (h : ∀ v' w', OwnS w' base v' (xs ++ news) → w.grownBy w' v.ownBlock → K (a.put o.dst v') w') : if Region.wanted o (yielded ops a.tmps) = true then Oper.wp Tryz.prog o a w K Q else E := by
  obtain ⟨v', w', hr, h1, h2⟩ := append_s w base v xs hown hn hbase ad m c news hm hn2 hnews o.type
  exact step_two hgd .append s x #[48, 48] ho v _ hs hx hr (h v' w' h1 h2)
theorem OwnS.alloc {w : World} {base : Nat} {v : Value} {l : List ByteArray} (h : OwnS w base v l) (x : Obj) : OwnS (w.alloc x) base v l := h.below ((Below.refl _ _).alloc (Nat.le_refl _) _)

set_option maxRecDepth 100000 in
set_option maxHeartbeats 2000000 in
theorem tella_any (B : Nat) (w0 w : World) (T : TypeId) (hT : T ≠ 9) (C : List Value) (m : Int) (nb sb : Nat) (l : List ByteArray) (f : Int) (pa : Option Addr) (pc : Nat) (ps : List Int) (HA : Af B w0 w T C m nb sb l) (hP : PicksAt B w pa ps)
    (hr : ∀ x ∈ ps, -9223372036854775808 ≤ x ∧ x ≤ 9223372036854775807) (hl : l.length + ps.length ≤ 50000) (henv : Env w0) :
    Calls Tryz.prog 59 #[.int .i64 f, .slice pa ps.length pc, .pointer (some ⟨nb, 0, none⟩), .pointer (some ⟨sb, 0, none⟩)] w fun e w' => (∃ r, e = .returned r) ∧ Af B w0 w' T C m nb sb (if hasF m f then l ++ ps.map ito else l) := by
  have cn : w.cell? ⟨nb, 0, none⟩ = some (.int .i64 m) := HA.nam.cell 0
  have hbits : (bits .and .i64 m f != 0) = hasF m f := rfl
  have hBs : B ≤ sb := by have := HA.base; have := HA.sbB; omega
  cases hf : hasF m f with
  | false =>
    rw [hf] at hbits
    go_enter Tryz.func59, Tryz.ntmps59
    go_wp2
    go_end0
    exact ⟨⟨_, rfl⟩, HA⟩
  | true =>
    rw [hf] at hbits
    go_enter Tryz.func59, Tryz.ntmps59
    go_wp2
    go_loopw [14] (fun i wr => ∃ k : Nat, k ≤ ps.length ∧ i = .int .i64 k ∧ Af B w0 wr T C m nb sb (l ++ (ps.take k).map ito) ∧ PicksAt B wr pa ps) (fun i _ => ps.length - (intOf i).toNat)
    case atStart => exact ⟨0, by omega, rfl, by simpa using HA, hP⟩
    case round =>
      obtain ⟨k, hk, rfl, HR, hPr⟩ := hrel
      by_cases hlt : k < ps.length
      · obtain ⟨g, o, rfl, h2, h3⟩ := hPr (by intro e; rw [e] at hlt; simp at hlt)
        obtain ⟨x, hx⟩ : ∃ x, ps[k]? = some x := ⟨_, List.getElem?_eq_getElem hlt⟩
        have cx := h3 k x hx
        obtain ⟨v, hs, ho⟩ := HR.row
        have cs : wr.cell? ⟨sb, 0, none⟩ = some v := hs.cell 0
        have hxr := hr x (List.mem_of_getElem? hx)
        have hen := henv.below HR.below
        have hkl : (l ++ (ps.take k).map ito).length ≤ 100000 := by simp; omega
        have HXK := Lib.hid hx; clear hx h3 h2
        have hlen : (l ++ (ps.take k).map ito ++ [ito x]).length = l.length + (k + 1) := by simp; omega
        have hcall : ∀ W, Env W → Calls Tryz.prog 55 #[.int .i64 x] W fun e w' => ∃ v, e = .returned v ∧ (v = .string ⟨(Lib.itoa x).toArray⟩ ∧ Below W.heap.size W w') :=
          fun W h => (itoa_any x hxr.1 hxr.2 W h).mono fun _ _ ⟨he, hb⟩ => ⟨_, he, rfl, hb⟩
        have hsl := hs.lt
        go_wp2
        go_region_law (first
          | (refine step_call1 rfl 55 (.tmp 19) _ rfl (enters_of Tryz.func55 (by kernel_rfl) rfl) _ (by simp [Act.eval]; try rfl) (hcall _ (hen.below ((Below.refl _ _).drew))) ?_
             rintro vh wh ⟨rfl, hbH⟩
             try replace hbH := below_undrew hbH
             have HX := HR.next hbH
             have hPx := hPr.below hbH
             have hsx := hs.below hbH hs.lt
             have hox := ho.below hbH
             have csx : wh.cell? ⟨sb, 0, none⟩ = some v := hsx.cell 0
             have hslx := hsx.lt
             have hbz : B ≤ wh.heap.size := by have h1 := HX.below.size; have h2 := HX.base; have h3 := HX.box.lt; omega)
          | (refine step_append_s rfl (.tmp 18) (.tmp 21) rfl B v (l ++ (ps.take k).map ito) _ 1 1 [ito x] (by simp [Act.eval]) (by simp [Act.eval]; rfl) (hox.alloc _) hkl (by simp; omega) rfl (by omega) ?news ?_
             case news => exact news_s wh [ito x]
             intro v' w1 ho1 hg1
             have HTold := HX.told hT hsx hox ho1 hg1
             have hPt := hPx.told (v' := v') hBs hsx hox hg1
             obtain ⟨g1, cap1, hv1, _, _⟩ := ho1.form (by simp)
             rw [hlen] at hv1
             subst hv1
             have hs1 : Blk w1 sb 48 [v] := (hsx.alloc _).grown hg1 (own_ne hox hsx (by intro cur e; injection e with _ e; exact absurd e (by decide)))
             have cs1 : w1.cell? ⟨sb, 0, none⟩ = some v := hs1.cell 0
             have fs1 := hs1.frozen 0))
        all_goals
          go_wp2
          go_roundw
          case rel => exact ⟨k + 1, by omega, by go_num, by rw [List.take_add_one, HXK.out]; simpa using HTold, hPt⟩
          case measure => simp [intOf]; omega
      · obtain rfl : k = ps.length := by omega
        go_wp2
        go_end0
        exact ⟨⟨_, rfl⟩, by simpa using HR⟩
end Go.Proofs.YtgplaeopcejmoaaGreatDoor
