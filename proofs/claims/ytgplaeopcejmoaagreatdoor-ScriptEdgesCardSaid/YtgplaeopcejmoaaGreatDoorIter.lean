/- A line that is taken apart: its words, one by one. Going over the operations' names: the iterator's contract. -/
import Derived.Test.YtgplaeopcejmoaaGreatDoorUnword
import Derived.Lib.SplitLaws
import Derived.Lib.AtoiAllCases
import Derived.RangeFuncNested
import Derived.RangeFuncBound
import Derived.RangeFuncCalls
import Derived.RangeFuncLeaves
import Derived.RangeFuncBox
import Derived.Shelf.Abstract
import Derived.WalkKit
import Derived.OwnWalkIn
import Derived.TacticsInMore
import Derived.LoopNIn
import Derived.LoopIn
import Derived.Maps.AppendAt
namespace Go.Proofs.YtgplaeopcejmoaaGreatDoor
open Go.RowKit

abbrev dec (u : Nat) : ByteArray := ⟨(Lib.decDigits u).toArray⟩
abbrev ito (n : Int) : ByteArray := ⟨(Lib.itoa n).toArray⟩
abbrev wtx (s : ByteArray) : ByteArray := txt (wordL (bs s))

/-- block b is a line, its words lie in block g -/
def LineAt (w : World) (b g : Nat) (ws : List ByteArray) (wr : Bool) : Prop :=
  (∃ all a o c, Blk w b 118 [.slice a ws.length c, .bool wr] ∧ Blk w g 9 all ∧ (ws ≠ [] → a = some ⟨g, o, none⟩ ∧ all.drop o = ws.map .string) ∧ g ≠ b ∧ ws.length ≤ c ∧ c ≤ 9223372036854775807) ∧ ∀ x ∈ ws, x.size ≤ 1000000
theorem LineAt.grown {w w' : World} {b g : Nat} {ws : List ByteArray} {wr : Bool} {row : Option Nat} (h : LineAt w b g ws wr) (hg : w.grownBy w' row) (h1 : some b ≠ row) (h2 : some g ≠ row) : LineAt w' b g ws wr := by
  obtain ⟨⟨all, a, o, c, hb, hg', h3⟩, hs⟩ := h
  exact ⟨⟨all, a, o, c, hb.grown hg h1, hg'.grown hg h2, h3⟩, hs⟩
theorem LineAt.below {w w' : World} {b g : Nat} {ws : List ByteArray} {wr : Bool} (h : LineAt w b g ws wr) (hb : Below w.heap.size w w') : LineAt w' b g ws wr :=
  h.grown (row := none) ⟨hb.os, hb.tape, hb.output, hb.size, fun j hj _ => hb.block j hj⟩ (by simp) (by simp)
theorem LineAt.lt {w : World} {b g : Nat} {ws : List ByteArray} {wr : Bool} (h : LineAt w b g ws wr) : b < w.heap.size ∧ g < w.heap.size := by
  obtain ⟨⟨all, a, o, c, hb, hg', h3⟩, hs⟩ := h
  exact ⟨hb.lt, hg'.lt⟩
theorem LineAt.wrong {w : World} {b g : Nat} {ws : List ByteArray} {wr : Bool} (h : LineAt w b g ws wr) : w.cell? ⟨b, 1, none⟩ = some (.bool wr) := by
  obtain ⟨⟨all, a, o, c, hb, hg', h3⟩, hs⟩ := h
  exact hb.cell 1
theorem LineAt.frozen {w : World} {b g : Nat} {ws : List ByteArray} {wr : Bool} (h : LineAt w b g ws wr) (j : Nat) : w.frozen? ⟨b, j, none⟩ = false := by
  obtain ⟨⟨all, a, o, c, hb, hg', h3⟩, hs⟩ := h
  exact hb.frozen j
theorem Blk.setCell {w : World} {g : Nat} {e : TypeId} {L : List Value} (h : Blk w g e L) (j : Nat) (v : Value) (hj : j < L.length) : Blk (w.setCell ⟨g, j, none⟩ v) g e (L.set j v) := by
  unfold Blk at *
  obtain ⟨hlt, hk⟩ := Array.getElem?_eq_some_iff.1 h
  show (w.heap.modify g _)[g]? = _
  rw [Array.getElem?_eq_getElem (by rw [Array.size_modify]; exact hlt), Array.getElem_modify_self, hk]
  simp [Array.setIfInBounds, hj]
theorem Blk.setOther {w : World} {g : Nat} {e : TypeId} {L : List Value} (h : Blk w g e L) {b : Nat} (hb : g ≠ b) (j : Nat) (v : Value) : Blk (w.setCell ⟨b, j, none⟩ v) g e L :=
  (Below.heap_setCell _ _ _ _ hb).trans h
theorem grown_setCell (W : World) (b j : Nat) (v : Value) : W.grownBy (W.setCell ⟨b, j, none⟩ v) (some b) :=
  ⟨rfl, rfl, rfl, (show W.heap.size ≤ (W.heap.modify _ _).size from by rw [Array.size_modify]; exact Nat.le_refl _), fun k _ hk => Below.heap_setCell _ _ _ k (fun e => hk (by rw [e]))⟩
theorem LineAt.set {w : World} {b g : Nat} {ws : List ByteArray} {wr : Bool} (h : LineAt w b g ws wr) (wr' : Bool) : LineAt (w.setCell ⟨b, 1, none⟩ (.bool wr')) b g ws wr' := by
  obtain ⟨⟨all, a, o, c, hb, hg', h3, h4, h5⟩, hs⟩ := h
  exact ⟨⟨all, a, o, c, hb.setCell 1 _ (by simp), hg'.setOther h4 _ _, h3, h4, h5⟩, hs⟩

theorem splitB_size (sep : ByteArray) (save : Nat) : ∀ (k : Nat) (s : ByteArray) (x : ByteArray), x ∈ Lib.splitB sep save k s → x.size ≤ s.size
  | 0, s, x, h => by
    rw [Lib.splitB_zero, List.mem_singleton] at h
    rw [h]; exact Nat.le_refl _
  | k + 1, s, x, h => by
    unfold Lib.splitB at h
    split at h
    · rw [List.mem_singleton] at h
      rw [h]; exact Nat.le_refl _
    · rcases List.mem_cons.1 h with rfl | h
      · rw [ByteArray.size_extract]; omega
      · have := splitB_size sep save k _ x h
        rw [ByteArray.size_extract] at this; omega

set_option maxRecDepth 100000 in
theorem lineOf_any (s : ByteArray) (hs : s.size ≤ 1000000) (w : World) (henv : Env w) :
    Calls Tryz.prog 62 #[.string s] w fun e w' => ∃ b g, e = .returned (.pointer (some ⟨b, 0, none⟩)) ∧ w.heap.size ≤ b ∧ w.heap.size ≤ g ∧ LineAt w' b g (Lib.splitB ⟨#[32]⟩ 0 (Lib.countB s ⟨#[32]⟩) s) false ∧ Below w.heap.size w w' := by
  obtain ⟨m, hm⟩ := henv.mxl
  go_enter Tryz.func62, Tryz.ntmps62
  go_wp2_with (go_at_call 94; refine (Tryz.strings_Split s ⟨#[32]⟩ m _ (by omega) hm (by decide)).mono ?_; rintro e w' ⟨rfl, rfl⟩)
  go_ret
  have hl := Lib.splitB_all ⟨#[32]⟩ (by decide) 0 _ s rfl
  have hsz : Lib.countB s ⟨#[32]⟩ ≤ s.size := Lib.countB_le _ (by decide) _ s (Nat.le_refl _)
  have hB := Blk.new w 9 ((Lib.splitB ⟨#[32]⟩ 0 (Lib.countB s ⟨#[32]⟩) s).map Value.string)
  refine ⟨_, _, rfl, ?_, Nat.le_refl _, ⟨⟨_, _, 0, Lib.countB s ⟨#[32]⟩ + 1, ?_, hB.alloc _, fun _ => ⟨rfl, rfl⟩, ?_, by omega, by omega⟩, ?_⟩, ?_⟩
  · simp
  · rw [hl]
    have hN := Blk.new (w.alloc (.cells ((Lib.splitB ⟨#[32]⟩ 0 (Lib.countB s ⟨#[32]⟩) s).map Value.string).toArray 9)) 118 [.slice (some ⟨w.heap.size, 0, none⟩) (Lib.countB s ⟨#[32]⟩ + 1) (Lib.countB s ⟨#[32]⟩ + 1), .bool false]
    rw [World.size_alloc] at hN
    exact hN
  · simp
  · exact fun x hx => Nat.le_trans (splitB_size _ _ _ _ x hx) hs
  · exact ((Below.refl _ _).alloc (Nat.le_refl _) _).alloc (by simp) _

set_option maxRecDepth 100000 in
theorem lword_any (b g : Nat) (ws : List ByteArray) (wr : Bool) (w : World) (h : LineAt w b g ws wr) :
    Calls Tryz.prog 67 #[.pointer (some ⟨b, 0, none⟩)] w fun e w' => e = .returned (.string (ws.headD ⟨#[]⟩)) ∧ LineAt w' b g ws.tail (wr || ws.isEmpty) ∧ w.grownBy w' (some b) := by
  obtain ⟨⟨all, a, o, c, hb, hg, h3, h4, h5, h6⟩, hs⟩ := h
  have c0 := hb.cell 0
  have c1 := hb.cell 1
  have f0 := hb.frozen 0
  have f1 := hb.frozen 1
  cases ws with
  | nil =>
    go_enter Tryz.func67, Tryz.ntmps67
    go_wp2
    go_ret
    refine ⟨rfl, ⟨⟨all, a, o, c, ?_, hg.setOther h4 _ _, by simp, h4, by simp, h6⟩, by simp⟩, grown_setCell _ _ _ _⟩
    have := hb.setCell 1 (.bool true) (by simp)
    simpa using this
  | cons x ws =>
    obtain ⟨rfl, h3'⟩ := h3 (by simp)
    have hx : all[o]? = some (.string x) := by
      have := congrArg (fun l => l[0]?) h3'
      simpa using this
    have hd : all.drop (o + 1) = ws.map .string := by
      have := congrArg List.tail h3'
      simpa using this
    have cx := (hg.cell o).trans hx
    have hl : ws.length + 1 ≤ c := by simpa using h5
    go_enter Tryz.func67, Tryz.ntmps67
    go_wp2
    · go_ret
      have hz : ws = [] := List.eq_nil_of_length_eq_zero (by omega)
      subst hz
      refine ⟨rfl, ⟨⟨all, some ⟨g, o, none⟩, o, 0, ?_, hg.setOther h4 _ _, by simp, h4, by simp, by omega⟩, by simp⟩, grown_setCell _ _ _ _⟩
      have := hb.setCell 0 (.slice (some ⟨g, o, none⟩) 0 0) (by simp)
      simpa using this
    · go_ret
      refine ⟨rfl, ⟨⟨all, some ⟨g, o + 1, none⟩, o + 1, c - 1, ?_, hg.setOther h4 _ _, fun _ => ⟨rfl, hd⟩, h4, by omega, by omega⟩, fun y hy => hs y (.tail _ hy)⟩, grown_setCell _ _ _ _⟩
      have := hb.setCell 0 (.slice (some ⟨g, o + 1, none⟩) ws.length (c - 1)) (by simp)
      simpa using this

theorem head_size {w : World} {b g : Nat} {ws : List ByteArray} {wr : Bool} (h : LineAt w b g ws wr) : (ws.headD ⟨#[]⟩).size ≤ 1000000 := by
  cases ws with
  | nil => decide
  | cons x l => exact h.2 x (.head _)

theorem ldone_any (b g : Nat) (ws : List ByteArray) (wr : Bool) (w : World) (h : LineAt w b g ws wr) :
    Calls Tryz.prog 64 #[.pointer (some ⟨b, 0, none⟩)] w fun e w' => e = .returned (.bool (!wr && ws.isEmpty)) ∧ w = w' := by
  have cw := h.wrong
  obtain ⟨⟨all, a, o, c, hb, hg, h3, h4, h5, h6⟩, hs⟩ := h
  have c0 : w.cell? ⟨b, 0, none⟩ = some (.slice a ws.length c) := hb.cell 0
  cases wr with
  | true =>
    go_enter Tryz.func64, Tryz.ntmps64
    go_wp2
    go_ret
    exact ⟨rfl, rfl⟩
  | false =>
    cases ws with
    | nil =>
      go_enter Tryz.func64, Tryz.ntmps64
      go_wp2
      go_ret
      exact ⟨rfl, rfl⟩
    | cons x l =>
      go_enter Tryz.func64, Tryz.ntmps64
      go_wp2
      go_ret
      refine ⟨ret_bool ?_, rfl⟩
      simp
      try omega

/-- what a word is as a text; and is it wrong -/
def textV (x : ByteArray) : ByteArray × Bool := match unwordL (bs x) with
  | some l => (txt l, false)
  | none => (⟨#[]⟩, true)
/-- what a word is as a number from 0 on; and is it wrong -/
def natV (x : ByteArray) : Nat × Bool := match Lib.parseUintB 64 x.data.toList with
  | .ok u => (u, !(Lib.decDigits u == x.toList))
  | .range => (18446744073709551615, true)
  | _ => (0, true)
def intV (x : ByteArray) : Int × Bool := match Lib.atoiAll x.data.toList with
  | .ok u => (u, !(Lib.itoa u == x.toList))
  | .range => (Lib.atoiSat x.data.toList, true)
  | _ => (0, true)

set_option maxRecDepth 100000 in
theorem ltext_any (b g : Nat) (ws : List ByteArray) (wr : Bool) (w : World) (h : LineAt w b g ws wr) :
    Calls Tryz.prog 97 #[.pointer (some ⟨b, 0, none⟩)] w fun e w' => e = .returned (.string (textV (ws.headD ⟨#[]⟩)).1) ∧ LineAt w' b g ws.tail ((wr || ws.isEmpty) || (textV (ws.headD ⟨#[]⟩)).2) ∧ w.grownBy w' (some b) := by
  have hsz := head_size h
  have hb0 := h.lt
  obtain ⟨x, hx⟩ : ∃ x, ws.headD ⟨#[]⟩ = x := ⟨_, rfl⟩
  rw [hx] at hsz ⊢
  have HX := Lib.hid hx; clear hx
  obtain ⟨w1r, hw1r⟩ : ∃ r, (wr || ws.isEmpty) = r := ⟨_, rfl⟩
  rw [hw1r]
  have HR := Lib.hid hw1r; clear hw1r
  unfold textV
  obtain ⟨o, ho⟩ : ∃ o, unwordL (bs x) = o := ⟨_, rfl⟩
  rw [ho]
  have HO := Lib.hid ho; clear ho
  go_enter Tryz.func97, Tryz.ntmps97
  cases w1r <;> cases o <;>
  go_wp2_with (first
    | (go_at_call 67; refine (lword_any b g ws wr _ h).mono ?_; rintro e w1 ⟨rfl, hl1, hg1⟩; rw [HX.out])
    | (go_at_call 12; refine (unword_any x hsz _).mono ?_; rintro e w2 ⟨he, hb2⟩; rw [HO.out] at he; obtain rfl := he
       have hl2 := hl1.below hb2
       rw [HR.out] at hl2
       have cw := hl2.wrong
       have cf := hl2.frozen 1))
  all_goals
    go_ret
  all_goals
    refine ⟨rfl, ?_, grownBy_trans (grownBy_trans hg1 (grownBy_of_below (some b) hb2 (Nat.le_refl _))) (grown_setCell _ _ _ _)⟩
    first
    | exact hl2.set true
    | exact hl2.set false

theorem parseUintM_le (M : Nat) : ∀ (l : Bs) (acc u : Nat), acc ≤ M → Lib.parseUintM M acc l = .ok u → u ≤ M
  | [], acc, u, ha, h => by
    unfold Lib.parseUintM at h
    injection h with h; omega
  | c :: r, acc, u, ha, h => by
    unfold Lib.parseUintM at h
    split at h
    · split at h
      · cases h
      · split at h
        · cases h
        · exact parseUintM_le M r _ u (by omega) h
    · cases h
theorem parseUint64_lt {l : Bs} {u : Nat} (h : Lib.parseUintB 64 l = .ok u) : u < 18446744073709551616 := by
  unfold Lib.parseUintB at h
  split at h
  · cases h
  · have := parseUintM_le _ _ _ _ (by omega) h
    omega

theorem below_bytes (w : World) (t : TypeId) (s : ByteArray) : Below w.heap.size w (Lib.bytesWorld w t s) :=
  ⟨rfl, rfl, rfl, by rw [Lib.bytesWorld_size]; omega, fun j hj => Lib.bytesWorld_at_old w t s j hj⟩

set_option maxRecDepth 100000 in
theorem lnat_any (b g : Nat) (ws : List ByteArray) (wr : Bool) (w : World) (h : LineAt w b g ws wr) (hbe : ∀ w', w.grownBy w' (some b) → Env w') :
    Calls Tryz.prog 96 #[.pointer (some ⟨b, 0, none⟩)] w fun e w' => e = .returned (.int .u64 (natV (ws.headD ⟨#[]⟩)).1) ∧ LineAt w' b g ws.tail ((wr || ws.isEmpty) || (natV (ws.headD ⟨#[]⟩)).2) ∧ w.grownBy w' (some b) := by
  have hsz := head_size h
  have hb0 := h.lt
  obtain ⟨x, hx⟩ : ∃ x, ws.headD ⟨#[]⟩ = x := ⟨_, rfl⟩
  rw [hx] at hsz ⊢
  have HX := Lib.hid hx; clear hx
  obtain ⟨w1r, hw1r⟩ : ∃ r, (wr || ws.isEmpty) = r := ⟨_, rfl⟩
  rw [hw1r]
  have HR := Lib.hid hw1r; clear hw1r
  unfold natV
  obtain ⟨o, ho⟩ : ∃ o, Lib.parseUintB 64 x.data.toList = o := ⟨_, rfl⟩
  rw [ho]
  have HO := Lib.hid ho; clear ho
  go_enter Tryz.func96, Tryz.ntmps96
  cases o with
  | ok u =>
    have hu := parseUint64_lt HO.out
    cases w1r <;>
    go_wp2_with (first
      | (go_at_call 67; refine (lword_any b g ws wr _ h).mono ?_; rintro e w1 ⟨rfl, hl1, hg1⟩; rw [HX.out]; rw [HR.out] at hl1; have henv1 := hbe _ hg1)
      | (go_at_call 109; refine (Tryz.strconv_ParseUint_10_at64_ok x (by omega) u HO.out _).mono ?_; rintro e w2 ⟨rfl, hw2⟩
         have hb2 : Below w1.heap.size w1 w2 := by
           rcases hw2 with rfl | rfl
           · exact Below.refl _ _
           · exact below_bytes _ _ _
         have hl2 := hl1.below hb2
         have henv2 := henv1.below hb2
         have cw := hl2.wrong
         have cf := hl2.frozen 1
         clear hw2)
      | (go_at_call 54; refine (natural_any u hu _ henv2).mono ?_; rintro e w3 ⟨rfl, hb3⟩
         have hl3 := hl2.below hb3
         have cw3 := hl3.wrong
         have cf3 := hl3.frozen 1))
    all_goals
      go_ret
    all_goals
      first
      | (refine ⟨rfl, ?_, grownBy_trans (grownBy_trans (grownBy_trans hg1 (grownBy_of_below (some b) hb2 (Nat.le_refl _))) (grownBy_of_below (some b) hb3 (Nat.le_refl _))) (grown_setCell _ _ _ _)⟩
         exact hl3.set _)
      | (refine ⟨rfl, ?_, grownBy_trans (grownBy_trans hg1 (grownBy_of_below (some b) hb2 (Nat.le_refl _))) (grown_setCell _ _ _ _)⟩
         exact hl2.set true)
  | range =>
    cases w1r <;>
    go_wp2_with (first
      | (go_at_call 67; refine (lword_any b g ws wr _ h).mono ?_; rintro e w1 ⟨rfl, hl1, hg1⟩; rw [HX.out]; rw [HR.out] at hl1; have henv1 := hbe _ hg1; obtain ⟨tp, p, hv⟩ := henv1.rng)
      | (go_at_call 109; refine (Tryz.strconv_ParseUint_10_at64_range_var x (by omega) HO.out tp p _ hv).mono ?_; rintro e w2 ⟨N, rfl, hN, hN2, hb2⟩
         have hl2 := hl1.below hb2
         have cw := hl2.wrong
         have cf := hl2.frozen 1
         clear hN hN2))
    all_goals
      go_ret
      refine ⟨rfl, ?_, grownBy_trans (grownBy_trans hg1 (grownBy_of_below (some b) hb2 (Nat.le_refl _))) (grown_setCell _ _ _ _)⟩
      exact hl2.set true
  | _ =>
    cases w1r <;>
    go_wp2_with (first
      | (go_at_call 67; refine (lword_any b g ws wr _ h).mono ?_; rintro e w1 ⟨rfl, hl1, hg1⟩; rw [HX.out]; rw [HR.out] at hl1; have henv1 := hbe _ hg1; obtain ⟨tp, p, hv⟩ := henv1.syn)
      | (go_at_call 109; refine (Any.strconv_ParseUint_10_at64_syntax_var Tryz.laysPu14 x (by omega) HO.out tp p _ hv).mono ?_; rintro e w2 ⟨N, rfl, hN, hN2, hb2⟩
         have hl2 := hl1.below hb2
         have cw := hl2.wrong
         have cf := hl2.frozen 1
         clear hN hN2))
    all_goals
      go_ret
      refine ⟨rfl, ?_, grownBy_trans (grownBy_trans hg1 (grownBy_of_below (some b) hb2 (Nat.le_refl _))) (grown_setCell _ _ _ _)⟩
      exact hl2.set true


set_option maxRecDepth 100000 in
theorem lint_any (b g : Nat) (ws : List ByteArray) (wr : Bool) (w : World) (h : LineAt w b g ws wr) (hbe : ∀ w', w.grownBy w' (some b) → Env w') :
    Calls Tryz.prog 69 #[.pointer (some ⟨b, 0, none⟩)] w fun e w' => e = .returned (.int .i64 (intV (ws.headD ⟨#[]⟩)).1) ∧ LineAt w' b g ws.tail ((wr || ws.isEmpty) || (intV (ws.headD ⟨#[]⟩)).2) ∧ w.grownBy w' (some b) := by
  have hsz := head_size h
  have hb0 := h.lt
  obtain ⟨x, hx⟩ : ∃ x, ws.headD ⟨#[]⟩ = x := ⟨_, rfl⟩
  rw [hx] at hsz ⊢
  have HX := Lib.hid hx; clear hx
  obtain ⟨w1r, hw1r⟩ : ∃ r, (wr || ws.isEmpty) = r := ⟨_, rfl⟩
  rw [hw1r]
  have HR := Lib.hid hw1r; clear hw1r
  unfold intV
  obtain ⟨o, ho⟩ : ∃ o, Lib.atoiAll x.data.toList = o := ⟨_, rfl⟩
  rw [ho]
  have HO := Lib.hid ho; clear ho
  go_enter Tryz.func69, Tryz.ntmps69
  cases o with
  | ok u =>
    have hu := Lib.atoiAll_bounds HO.out
    cases w1r <;>
    go_wp2_with (first
      | (go_at_call 67; refine (lword_any b g ws wr _ h).mono ?_; rintro e w1 ⟨rfl, hl1, hg1⟩; rw [HX.out]; rw [HR.out] at hl1; have henv1 := hbe _ hg1)
      | (go_at_call 98; refine (Tryz.strconv_Atoi_ok x (by omega) u HO.out _).mono ?_; rintro e w2 ⟨rfl, hw2⟩
         have hb2 : Below w1.heap.size w1 w2 := by
           rcases hw2 with rfl | ⟨t, rfl⟩
           · exact Below.refl _ _
           · exact below_bytes _ _ _
         have hl2 := hl1.below hb2
         have henv2 := henv1.below hb2
         have cw := hl2.wrong
         have cf := hl2.frozen 1
         clear hw2)
      | (go_at_call 55; refine (itoa_any u hu.1 hu.2 _ henv2).mono ?_; rintro e w3 ⟨rfl, hb3⟩
         have hl3 := hl2.below hb3
         have cw3 := hl3.wrong
         have cf3 := hl3.frozen 1))
    all_goals
      go_ret
    all_goals
      first
      | (refine ⟨rfl, ?_, grownBy_trans (grownBy_trans (grownBy_trans hg1 (grownBy_of_below (some b) hb2 (Nat.le_refl _))) (grownBy_of_below (some b) hb3 (Nat.le_refl _))) (grown_setCell _ _ _ _)⟩
         exact hl3.set _)
      | (refine ⟨rfl, ?_, grownBy_trans (grownBy_trans hg1 (grownBy_of_below (some b) hb2 (Nat.le_refl _))) (grown_setCell _ _ _ _)⟩
         exact hl2.set true)
  | range =>
    cases w1r <;>
    go_wp2_with (first
      | (go_at_call 67; refine (lword_any b g ws wr _ h).mono ?_; rintro e w1 ⟨rfl, hl1, hg1⟩; rw [HX.out]; rw [HR.out] at hl1; have henv1 := hbe _ hg1; obtain ⟨tp, p, hv⟩ := henv1.rng)
      | (go_at_call 98; refine (Tryz.strconv_Atoi_range_var x (by omega) HO.out tp p _ hv).mono ?_; rintro e w2 ⟨N, rfl, hN, hN2, hb2⟩
         have hl2 := hl1.below hb2
         have cw := hl2.wrong
         have cf := hl2.frozen 1
         clear hN hN2))
    all_goals
      go_ret
      refine ⟨rfl, ?_, grownBy_trans (grownBy_trans hg1 (grownBy_of_below (some b) hb2 (Nat.le_refl _))) (grown_setCell _ _ _ _)⟩
      exact hl2.set true
  | _ =>
    cases w1r <;>
    go_wp2_with (first
      | (go_at_call 67; refine (lword_any b g ws wr _ h).mono ?_; rintro e w1 ⟨rfl, hl1, hg1⟩; rw [HX.out]; rw [HR.out] at hl1; have henv1 := hbe _ hg1; obtain ⟨tp, p, hv⟩ := henv1.syn)
      | (go_at_call 98; refine (Any.strconv_Atoi_syntax_var Tryz.laysC172 x (by omega) HO.out tp p _ hv).mono ?_; rintro e w2 ⟨N, rfl, hN, hN2, hb2⟩
         have hl2 := hl1.below hb2
         have cw := hl2.wrong
         have cf := hl2.frozen 1
         clear hN hN2))
    all_goals
      go_ret
      refine ⟨rfl, ?_, grownBy_trans (grownBy_trans hg1 (grownBy_of_below (some b) hb2 (Nat.le_refl _))) (grown_setCell _ _ _ _)⟩
      exact hl2.set true
end Go.Proofs.YtgplaeopcejmoaaGreatDoor
namespace Go.Proofs.YtgplaeopcejmoaaGreatDoor
open Go.RowKit Go.Shelf

attribute [local go_sem] Oper.semAt_some

def opNames : List ByteArray := [⟨#[98, 101, 103, 105, 110]⟩, ⟨#[103, 101, 116]⟩, ⟨#[115, 99, 97, 110]⟩, ⟨#[112, 117, 116]⟩, ⟨#[100, 101, 108, 101, 116, 101]⟩, ⟨#[115, 97, 118, 101]⟩, ⟨#[98, 97, 99, 107]⟩, ⟨#[99, 111, 109, 109, 105, 116]⟩, ⟨#[97, 98, 111, 114, 116]⟩, ⟨#[97, 115, 107]⟩, ⟨#[118, 97, 99, 117, 117, 109]⟩, ⟨#[99, 104, 101, 99, 107]⟩]
theorem names_any (w : World) : Calls Tryz.prog 51 #[] w fun e w' => e = .returned (.func (.func 90) #[] #[]) ∧ w = w' := by
  go_enter Tryz.func51, Tryz.ntmps51
  go_wp2
  go_ret
  exact ⟨rfl, rfl⟩

def nmAt (x : Fin 12) : ByteArray := (opNames[x.val]?).getD ⟨#[]⟩
abbrev encK (x : Fin 12) : Array Value := #[.int .i64 (1 + (x.val : Int)), .string (nmAt x)]
def allK : List (Fin 12) := List.finRange 12
theorem allK_take (k : Nat) (h : k < 12) : allK.take (k + 1) = allK.take k ++ [⟨k, h⟩] := by
  have hk : k < allK.length := by simpa [allK] using h
  rw [List.take_succ_eq_append_getElem hk]
  simp [allK]
def namesV : Value := .agg (opNames.map Value.string).toArray
theorem idx_names : (x : Fin 12) → (W : World) → (Instr.index 142 namesV (.int .i64 (x.val : Int))).run Tryz.prog W = .ok (.string (nmAt x)) W
  | ⟨0, _⟩, _ => by kernel_rfl
  | ⟨1, _⟩, _ => by kernel_rfl
  | ⟨2, _⟩, _ => by kernel_rfl
  | ⟨3, _⟩, _ => by kernel_rfl
  | ⟨4, _⟩, _ => by kernel_rfl
  | ⟨5, _⟩, _ => by kernel_rfl
  | ⟨6, _⟩, _ => by kernel_rfl
  | ⟨7, _⟩, _ => by kernel_rfl
  | ⟨8, _⟩, _ => by kernel_rfl
  | ⟨9, _⟩, _ => by kernel_rfl
  | ⟨10, _⟩, _ => by kernel_rfl
  | ⟨11, _⟩, _ => by kernel_rfl

set_option maxRecDepth 100000 in
set_option maxHeartbeats 2000000 in
theorem names_stops (n n₀ : Nat) (hn : 1 ≤ n) (w : World) : SeqStopsK Fence.wide n Tryz.prog 90 #[] encK (Below n₀) (fun ys => ys = allK) (fun pre => pre <+: allK) 12 w := fun l J Jx W hW hJ hJx hY h0 => by
  refine callsIn_of_wp Tryz.func90 rfl trivial ?_ rfl
  simp only [Tryz.ntmps90, List.size_toArray, List.length_cons, List.length_nil, Nat.reduceAdd, Nat.reduceSub, Array.replicate_succ, Array.replicate_zero, List.push_toArray, List.append_toArray, List.nil_append, List.cons_append]
  gi_wp2
  gi_loopw [7] (fun i wr => ∃ k : Nat, k ≤ 12 ∧ i = .int .i64 k ∧ J (allK.take k) wr) (fun i _ => 12 - (intOf i).toNat)
  case atStart => exact ⟨0, by omega, rfl, hJ [] W _ none h0 (World.grownBy_alloc W _ none) (fun r e => by cases e)⟩
  case round =>
    obtain ⟨k, hk, rfl, hJs⟩ := hrel
    by_cases hlt : k < 12
    · obtain ⟨fn, tmps, assign, body, hy, hR⟩ := hY _ ⟨k, hlt⟩ wr hJs (by simp [allK]; omega)
      have hix := idx_names ⟨k, hlt⟩
      dsimp only [encK] at hy
      have hw : IntKind.i64.wrap (1 + (k : Int)) = 1 + (k : Int) := by rw [IntKind.wrap_i64]; omega
      simp only [namesV, opNames, List.map_cons, List.map_nil] at hix
      gi_wp2
      refine hR.mono ?_
      rintro e W3 (⟨rfl, hJ3, _⟩ | ⟨rfl, hJx3⟩)
      · gi_wp2
        go_roundw
        case rel => exact ⟨k + 1, by omega, by simp, by rw [allK_take k hlt]; exact hJ3⟩
        case measure => simp [intOf]; omega
      · gi_wp2
        refine bodyPost_ret (results_none rfl _ _ _) rfl ?_
        exact ⟨⟨_, rfl⟩, .inr ⟨allK.take k ++ [⟨k, hlt⟩], by rw [← allK_take k hlt]; exact List.take_prefix _ _, hJx3⟩⟩
    · obtain rfl : k = 12 := by omega
      gi_wp2
      go_end0
      exact ⟨⟨_, rfl⟩, .inl ⟨_, List.take_of_length_le (by simp [allK]), hJs⟩⟩
end Go.Proofs.YtgplaeopcejmoaaGreatDoor
