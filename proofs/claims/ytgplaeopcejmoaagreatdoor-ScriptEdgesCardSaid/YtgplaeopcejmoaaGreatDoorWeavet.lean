/- What two scripts' texts are, woven: the plain law behind ScriptWeaves; the document's Split at great texts; the law's lines and wrong. -/
import Derived.Test.YtgplaeopcejmoaaGreatDoorSamec
import Derived.Test.YtgplaeopcejmoaaGreatDoorBound
import Derived.Test.YtgplaeopcejmoaaGreatDoorParse
import Derived.Test.YtgplaeopcejmoaaGreatDoorKnown
import Derived.Test.YtgplaeopcejmoaaGreatDoorOpenscr
namespace Go.Proofs.YtgplaeopcejmoaaGreatDoor
open Go.RowKit Go.Shelf

theorem wv_cuts {s : Scr} (hm : mayScr s = true) : cutsL 10 (bs (scrText s)) = (scrLines s).map bs ++ [[]] := by
  unfold scrText
  rw [bs_txt, cuts_ln _ (scrLines_lack hm)]
theorem map_txt_bs (l : List ByteArray) : (l.map bs).map txt = l := by
  rw [List.map_map]
  conv => rhs; rw [← List.map_id l]
  exact List.map_congr_left fun x _ => txt_bs x
theorem wv_split {s : Scr} (hm : mayScr s = true) : splitT 10 (scrText s) = scrLines s ++ [⟨#[]⟩] := by
  unfold splitT
  rw [wv_cuts hm, List.map_append, map_txt_bs]; rfl
theorem scrLines_len (s : Scr) : (scrLines s).length = 5 + s.acts.length := by
  unfold scrLines
  rw [List.length_append, List.length_map, List.length_range, List.length_map]
theorem scrLines_drop (s : Scr) : (scrLines s).drop 5 = s.acts.map actText := rfl
theorem mayScr_parts {s : Scr} (h : mayScr s = true) : maySet s.set = true ∧ ∀ a ∈ s.acts, mayAct a = true := by
  unfold mayScr at h
  rw [Bool.and_eq_true, List.all_eq_true] at h
  exact h
theorem mayScr_mk {s : Scr} (h1 : maySet s.set = true) (h2 : ∀ a ∈ s.acts, mayAct a = true) : mayScr s = true := by
  unfold mayScr
  rw [Bool.and_eq_true, List.all_eq_true]
  exact ⟨h1, h2⟩
def scrBoth (a b : Scr) : Scr := ⟨a.set, a.acts ++ b.acts⟩
def scrTake (a : Scr) (n : Nat) : Scr := ⟨a.set, a.acts.take n⟩
theorem wv_both_lines (a b : Scr) : scrLines a ++ (scrLines b).drop 5 = scrLines (scrBoth a b) := by
  rw [scrLines_drop]
  unfold scrLines scrBoth
  rw [List.map_append, List.append_assoc]
theorem wv_both_may {a b : Scr} (ha : mayScr a = true) (hb : mayScr b = true) : mayScr (scrBoth a b) = true := by
  refine mayScr_mk (mayScr_parts ha).1 fun x hx => ?_
  rcases List.mem_append.1 hx with hx | hx
  · exact (mayScr_parts ha).2 x hx
  · exact (mayScr_parts hb).2 x hx
theorem wv_both_ok {a b : Scr} (ha : ScrOk a) (hb : ScrOk b) : ScrOk (scrBoth a b) := ⟨ha.set, fun x hx => by
  rcases List.mem_append.1 hx with hx | hx
  · exact ha.acts x hx
  · exact hb.acts x hx⟩
theorem wv_both {a b : Scr} (ha : mayScr a = true) (hb : mayScr b = true) (oa : ScrOk a) (ob : ScrOk b) (fa : Few a) (fb : Few b) :
    parseT (txt (lnB (scrLines a ++ (scrLines b).drop 5))) = .ok (scrBoth a b) := by
  rw [wv_both_lines]
  refine parse_text (wv_both_may ha hb) (wv_both_ok oa ob) ?_
  have := fa.len; have := fb.len
  unfold scrBoth
  rw [List.length_append]; omega
theorem wv_take_lines (s : Scr) {k : Nat} (hk : 5 ≤ k) : (scrLines s).take k = scrLines (scrTake s (k - 5)) := by
  unfold scrLines scrTake
  rw [List.take_append, List.length_map, List.length_range, List.take_of_length_le (by simp; omega), List.map_take]
theorem wv_take_may {s : Scr} (h : mayScr s = true) (n : Nat) : mayScr (scrTake s n) = true :=
  mayScr_mk (mayScr_parts h).1 fun x hx => (mayScr_parts h).2 x (List.mem_of_mem_take hx)
theorem wv_take_ok {s : Scr} (h : ScrOk s) (n : Nat) : ScrOk (scrTake s n) := ⟨h.set, fun x hx => h.acts x (List.mem_of_mem_take hx)⟩
theorem wv_less {s : Scr} (hm : mayScr s = true) (ok : ScrOk s) (few : Few s) {k : Nat} (hk : 5 ≤ k) : parseT (txt (lnB ((scrLines s).take k))) = .ok (scrTake s (k - 5)) := by
  rw [wv_take_lines s hk]
  refine parse_text (wv_take_may hm _) (wv_take_ok ok _) ?_
  have := few.len
  unfold scrTake
  rw [List.length_take]; omega
theorem cuts_lines {l : List ByteArray} (h : ∀ x ∈ l, lackB 10 (bs x)) : cutsL 10 (bs (txt (lnB l))) = l.map bs ++ [[]] := by
  rw [bs_txt, cuts_ln _ h]
theorem wv_wrong {s : Scr} (hm : mayScr s = true) {k : Nat} (hk : k < 5) : parseT (txt (lnB ((scrLines s).take k))) = .error k := by
  have hs := (mayScr_parts hm).1
  have ok := maySet_ok hs
  unfold parseT
  rw [cuts_lines fun x hx => scrLines_lack hm x (List.mem_of_mem_take hx), scrLines_eq]
  unfold scrZ
  have e : ∀ n (u : Scr), n < 5 → parseB n u [[]] = .error n := fun n u hn => by
    rw [parseB, if_neg (by omega)]
  match k, hk with
  | 0, _ => exact e 0 _ (by decide)
  | 1, _ =>
    simp only [List.take_succ_cons, List.take_zero, List.map_cons, List.map_nil, List.cons_append, List.nil_append]
    rw [parseB_step (by simp) (step_head (n := 0) (by decide) s.set [] _ (ok 0) (fun h => absurd h (by decide))), e _ _ (by decide)]
  | 2, _ =>
    simp only [List.take_succ_cons, List.take_zero, List.map_cons, List.map_nil, List.cons_append, List.nil_append]
    rw [parseB_step (by simp) (step_head (n := 0) (by decide) s.set [] _ (ok 0) (fun h => absurd h (by decide))), parseB_step (by simp) (step_head (n := 1) (by decide) s.set [] _ (ok 1) (fun h => absurd h (by decide))), e _ _ (by decide)]
  | 3, _ =>
    simp only [List.take_succ_cons, List.take_zero, List.map_cons, List.map_nil, List.cons_append, List.nil_append]
    rw [parseB_step (by simp) (step_head (n := 0) (by decide) s.set [] _ (ok 0) (fun h => absurd h (by decide))), parseB_step (by simp) (step_head (n := 1) (by decide) s.set [] _ (ok 1) (fun h => absurd h (by decide))), parseB_step (by simp) (step_head (n := 2) (by decide) s.set [] _ (ok 2) (fun h => absurd h (by decide))), e _ _ (by decide)]
  | 4, _ =>
    simp only [List.take_succ_cons, List.take_zero, List.map_cons, List.map_nil, List.cons_append, List.nil_append]
    rw [parseB_step (by simp) (step_head (n := 0) (by decide) s.set [] _ (ok 0) (fun h => absurd h (by decide))), parseB_step (by simp) (step_head (n := 1) (by decide) s.set [] _ (ok 1) (fun h => absurd h (by decide))), parseB_step (by simp) (step_head (n := 2) (by decide) s.set [] _ (ok 2) (fun h => absurd h (by decide))), parseB_step (by simp) (step_head (n := 3) (by decide) s.set [] _ (ok 3) (fun h => absurd h (by decide))), e _ _ (by decide)]
theorem lnB_split (l : List ByteArray) (k : Nat) : lnB l = lnB (l.take k) ++ lnB (l.drop k) := by rw [← lnB_app, List.take_append_drop]
theorem lnB_take_le (l : List ByteArray) (k : Nat) : (lnB (l.take k)).length ≤ (lnB l).length := by
  have := congrArg List.length (lnB_split l k)
  rw [List.length_append] at this; omega
theorem lnB_drop_le (l : List ByteArray) (k : Nat) : (lnB (l.drop k)).length ≤ (lnB l).length := by
  have := congrArg List.length (lnB_split l k)
  rw [List.length_append] at this; omega
theorem lnB_mem_le : ∀ {l : List ByteArray} {x : ByteArray}, x ∈ l → x.size + 1 ≤ (lnB l).length
  | [], _, h => by cases h
  | y :: l, x, h => by
    rw [lnB_len_cons]
    rcases List.mem_cons.1 h with rfl | h
    · omega
    · have := lnB_mem_le h; omega
/-- a line of a script is short -/
theorem scrLine_small {s : Scr} (ok : ScrOk s) (few : Few s) : ∀ x ∈ scrLines s, x.size ≤ 1000000 := fun x hx => by
  unfold scrLines at hx
  rcases List.mem_append.1 hx with hx | hx
  · obtain ⟨i, _, rfl⟩ := List.mem_map.1 hx
    have := setLine_size s.set i (ok.set i); omega
  · obtain ⟨a, ha, rfl⟩ := List.mem_map.1 hx
    have h1 := actText_weigh a (ok.acts a ha)
    have h2 := weigh_small (few.small a ha); omega
theorem cuts_small {l : List ByteArray} (h : ∀ x ∈ l, lackB 10 (bs x)) (hs : ∀ x ∈ l, x.size ≤ 1000000) : ∀ c ∈ cutsL 10 (bs (txt (lnB l))), c.length ≤ 1000000 := fun c hc => by
  rw [cuts_lines h] at hc
  rcases List.mem_append.1 hc with hc | hc
  · obtain ⟨x, hx, rfl⟩ := List.mem_map.1 hc
    rw [bs_length]; exact hs x hx
  · simp only [List.mem_singleton] at hc
    subst hc; exact Nat.zero_le _
theorem txt_size (l : Bs) : (txt l).size = l.length := by rw [← bs_length, bs_txt]

/-- texts in memory, from a place on -/
def StrAt (W : World) (pa : Option Addr) (l : List ByteArray) : Prop := l ≠ [] → ∃ g o, pa = some ⟨g, o, none⟩ ∧ g < W.heap.size ∧ ∀ j x, l[j]? = some x → W.cell? ⟨g, o + j, none⟩ = some (.string x)
theorem StrAt.below {w w' : World} {pa : Option Addr} {l : List ByteArray} (h : StrAt w pa l) (hb : Below w.heap.size w w') : StrAt w' pa l := fun hl => by
  obtain ⟨g, o, e, hg, hc⟩ := h hl
  exact ⟨g, o, e, Nat.lt_of_lt_of_le hg hb.size, fun j x hx => (hb.cell (p := ⟨g, o + j, none⟩) hg).trans (hc j x hx)⟩
theorem StrAt.drew {w : World} {pa : Option Addr} {l : List ByteArray} (h : StrAt w pa l) : StrAt w.drew pa l := h.below ((Below.refl _ _).drew)
theorem StrAt.take {w : World} {pa : Option Addr} {l : List ByteArray} (h : StrAt w pa l) (n : Nat) : StrAt w pa (l.take n) := fun hl => by
  obtain ⟨g, o, e, hg, hc⟩ := h (fun e => hl (by rw [e]; simp))
  refine ⟨g, o, e, hg, fun j x hx => hc j x ?_⟩
  rw [List.getElem?_take] at hx
  split at hx
  · exact hx
  · cases hx
theorem OwnS.str {w : World} {base : Nat} {v : Value} {l : List ByteArray} (h : OwnS w base v l) : ∃ pa c, v = .slice pa l.length c ∧ StrAt w pa l := by
  cases l with
  | nil =>
    rcases h.2 with ⟨hv, _⟩ | ⟨g, cap, cur, hv, _⟩
    · exact ⟨none, 0, hv, fun hl => absurd rfl hl⟩
    · exact ⟨_, _, hv, fun hl => absurd rfl hl⟩
  | cons y l =>
    obtain ⟨g, cap, rfl, _, hg⟩ := OwnS.form h (List.cons_ne_nil y l)
    refine ⟨_, _, rfl, fun _ => ⟨g, 0, rfl, hg, fun j x hx => ?_⟩⟩
    have h1 := World.ownsRow.cells h rfl j (.string x) (by simp only [cellsS, List.getElem?_map]; rw [hx]; rfl)
    rw [Addr.add_lit] at h1
    exact h1
/-- a row of texts in a block -/
structure StrRow (W : World) (g : Nat) (l : List ByteArray) : Prop where
  lt : g < W.heap.size
  cell : ∀ j x, l[j]? = some x → W.cell? ⟨g, j, none⟩ = some (.string x)
theorem StrRow.below {W W' : World} {g : Nat} {l : List ByteArray} (h : StrRow W g l) (hb : Below W.heap.size W W') : StrRow W' g l := ⟨Nat.lt_of_lt_of_le h.lt hb.size, fun j x hx => (hb.cell (p := ⟨g, j, none⟩) h.lt).trans (h.cell j x hx)⟩
theorem StrRow.str {W : World} {g : Nat} {l : List ByteArray} (h : StrRow W g l) (n : Nat) : StrAt W (some ⟨g, 0, none⟩) (l.take n) := fun _ => ⟨g, 0, rfl, h.lt, fun j x hx => by
  rw [Nat.zero_add]
  refine h.cell j x ?_
  rw [List.getElem?_take] at hx
  split at hx
  · exact hx
  · cases hx⟩
theorem StrRow.news {W : World} {g : Nat} {l r : List ByteArray} (h : StrRow W g l) (o : Nat) (hr : ∀ j x, r[j]? = some x → l[o + j]? = some x) : ∀ j u, (cellsS r)[j]? = some u → W.cell? ((⟨g, o, none⟩ : Addr).add j) = some u := fun j u hu => by
  simp only [cellsS, List.getElem?_map] at hu
  cases hx : r[j]? with
  | none => rw [hx] at hu; cases hu
  | some x =>
    rw [hx] at hu
    simp only [Option.map_some, Option.some.injEq] at hu
    subst hu
    rw [Addr.add_lit]
    exact h.cell (o + j) x (hr j x hx)
theorem OwnS.rowAt {w : World} {base : Nat} {v : Value} {l : List ByteArray} (h : OwnS w base v l) (hl : l ≠ []) : ∃ g c, v = .slice (some ⟨g, 0, none⟩) l.length c ∧ l.length ≤ c ∧ base ≤ g ∧ StrRow w g l := by
  rcases h.2 with ⟨_, hx⟩ | ⟨g, cap, cur, rfl, hg, hh, hn, _⟩
  · exact absurd (List.eq_nil_of_length_eq_zero hx) hl
  · refine ⟨g, cap, rfl, hn, hg, (Array.getElem?_eq_some_iff.1 hh).1, fun j x hx => ?_⟩
    have h1 := World.ownsRow.cells h rfl j (.string x) (by simp only [cellsS, List.getElem?_map]; rw [hx]; rfl)
    rw [Addr.add_lit, Nat.zero_add] at h1
    exact h1
end Go.Proofs.YtgplaeopcejmoaaGreatDoor
