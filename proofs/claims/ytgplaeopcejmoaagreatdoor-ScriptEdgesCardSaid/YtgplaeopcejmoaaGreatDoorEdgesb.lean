/- ScriptEdges: the calls that its walk meets, each with the values that it has there. -/
import Derived.Test.YtgplaeopcejmoaaGreatDoorEdgest
import Derived.Test.YtgplaeopcejmoaaGreatDoorWeaveu
import Derived.Deep.OwnRows
import Derived.Test.YtgplaeopcejmoaaGreatDoorTexta
import Derived.Test.YtgplaeopcejmoaaGreatDoorSamec
import Derived.Test.YtgplaeopcejmoaaGreatDoorKnown
namespace Go.Proofs.YtgplaeopcejmoaaGreatDoor
open Go.RowKit Go.Shelf

/-! ### great rows that are made -/
theorem mk_acts : ∃ X : Obj, (∀ W : World, (Instr.makeSlice 61 (.int .i64 65537) (.int .i64 65537)).run Tryz.prog W = .ok (.slice (some ⟨W.heap.size, 0, none⟩) 65537 65537) (W.alloc X)) ∧ ∀ W : World, (W.alloc X).there W.heap.size 0 786444 := by
  obtain ⟨i0, hi0, hz0, hz1, hz2⟩ := info_act
  refine ⟨.cells (madeCells (actCells arZero (.slice none 0 0)).toArray 786444) 39, fun W => ?_, fun W j hj => ?_⟩
  · have hr := run_make (P := Tryz.prog) W 61 39 i0 _ Tryz.underlying61 hi0 hz0 .i64 .i64 65537 65537 (by omega) (Int.le_refl _) (by rw [hz2]; decide) (by decide)
    rw [hz1] at hr
    exact hr
  · have hs : (madeCells (actCells arZero (.slice none 0 0)).toArray 786444).size = 786444 := size_madeCells _ _
    generalize madeCells (actCells arZero (.slice none 0 0)).toArray 786444 = A at *
    have hB : Blk (W.alloc (.cells A 39)) W.heap.size 39 A.toList := by
      have := Blk.new W 39 A.toList
      rwa [Array.toArray_toList] at this
    rw [Nat.zero_add]
    exact ⟨by rw [hB.cell j]; simp [hs, hj], hB.frozen j⟩
/-! ### acts that are filled in -/
def tickC : List Value := actCells tickA (.slice none 0 0)
structure Fil (W : World) (g k : Nat) : Prop where
  there : W.there g 0 786444
  lt : g < W.heap.size
  done : ∀ j, j < k → W.rangeAt g (j * 12) tickC
theorem Fil.start {W : World} {g : Nat} (h : W.there g 0 786444) (hg : g < W.heap.size) : Fil W g 0 := ⟨h, hg, fun j hj => by omega⟩
theorem Fil.part {W : World} {g k j : Nat} (h : Fil W g k) (hj : j < 65537) : W.there g (j * 12) 12 := fun i hi => by
  have := h.there (j * 12 + i) (by omega)
  rwa [Nat.zero_add] at this
theorem tickC_len : tickC.length = 12 := rfl
theorem Fil.store {W : World} {g k : Nat} (h : Fil W g k) (hk : k < 65537) : Fil (W.setCells g (k * 12) tickC) g (k + 1) :=
  ⟨World.there_setCells h.there g (k * 12) tickC, Nat.lt_of_lt_of_le h.lt (grown_setCells g tickC W (k * 12)).size, fun j hj => by
    by_cases e : j = k
    · subst e
      exact World.rangeAt_setCells_same W g (j * 12) tickC (h.part hk)
    · exact World.rangeAt_setCells_apart (h.done j (by omega)) g (k * 12) tickC (.inr (by rw [tickC_len]; omega))⟩
theorem Fil.below {W W' : World} {g k : Nat} (h : Fil W g k) (hb : Below W.heap.size W W') : ∀ j, j < k → W'.rangeAt g (j * 12) tickC := fun j hj => rangeAt_below (h.done j hj) hb h.lt
theorem Fil.acts {W : World} {g n : Nat} (h : Fil W g n) (o m : Nat) (hm : o + m ≤ n) : ActsAt W (some ⟨g, o * 12, none⟩) (List.replicate m tickA) := fun _ => ⟨g, o * 12, rfl, h.lt, fun j a ha => by
  have hj := (List.getElem?_eq_some_iff.1 ha).1
  rw [List.length_replicate] at hj
  rw [List.getElem?_replicate, if_pos hj] at ha
  injection ha with ha
  subst ha
  refine ⟨none, 0, ?_, PkAt.nil _ _⟩
  have := h.done (o + j) (by omega)
  rw [Nat.add_mul] at this
  exact this⟩
theorem tick_may (n : Nat) : mayScr ⟨headS, List.replicate n tickA⟩ = true := mayScr_mk headMay (fun a ha => by rw [List.eq_of_mem_replicate ha]; exact tickMay)
theorem tick_ok (n : Nat) : ScrOk ⟨headS, List.replicate n tickA⟩ := ⟨maySet_ok headMay, fun a ha => by rw [List.eq_of_mem_replicate ha]; exact tickOk⟩
theorem tick_text (n : Nat) : (lnB (scrLines ⟨headS, List.replicate n tickA⟩)).length = 47 + 7 * n := by
  unfold scrLines
  rw [show (⟨headS, List.replicate n tickA⟩ : Scr).set = headS from rfl, head_lines, lnB_app, List.length_append]
  have h1 : (lnB headL).length = 47 := by decide
  have h2 : (lnB (List.map actText (List.replicate n tickA))).length = 7 * n := by
    rw [List.map_replicate, tickText]
    induction n with
    | zero => rfl
    | succ n ih => rw [List.replicate_succ, lnB_len_cons, ih, show tickB.size = 6 from rfl]; omega
  show (lnB headL).length + (lnB (List.map actText (List.replicate n tickA))).length = _
  rw [h1, h2]
theorem tick_call (n : Nat) (hn : n ≤ 100000) (p : Option Addr) (c : Nat) (W : World) (henv : Env W) (hA : ActsAt W p (List.replicate n tickA)) :
    Calls Tryz.prog 33 #[.agg #[.int .i64 2, .int .i64 900, .int .i64 4, .int .i64 1, .int .i64 0, .slice p n c]] W fun e w' => e = .returned (textR ⟨headS, List.replicate n tickA⟩) ∧ Below W.heap.size W w' := by
  have h := text_any ⟨headS, List.replicate n tickA⟩ (tick_ok n) p c W hA (by simp only [List.length_replicate]; omega) (fun _ => by
    rw [tick_text]; right; omega) henv
  simp only [List.length_replicate] at h
  exact h
theorem tick_long (n : Nat) (hn : 65536 < n) : textR ⟨headS, List.replicate n tickA⟩ = .tuple #[.string ⟨#[]⟩, .int .i64 3] := by
  unfold textR
  rw [tick_may, if_pos rfl, if_pos (by simp only [List.length_replicate]; omega)]
theorem tick_fits (n : Nat) (hn : n ≤ 65536) : ∃ t, textR ⟨headS, List.replicate n tickA⟩ = .tuple #[.string t, .int .i64 0] := by
  unfold textR
  rw [tick_may, if_pos rfl, if_neg (by simp only [List.length_replicate]; omega)]
  exact ⟨_, rfl⟩
/-! ### rows of noughts -/
theorem mk_bytes (n : Nat) (hn : n ≤ 100000000) : ∃ (X : Obj) (t : ByteArray), t.size = n ∧ (∀ W : World, (Instr.makeSlice 77 (.int .i64 (n : Int)) (.int .i64 (n : Int))).run Tryz.prog W = .ok (.slice (some ⟨W.heap.size, 0, none⟩) n n) (W.alloc X)) ∧
    (∀ W : World, (convert 77 9 (.slice (some ⟨W.heap.size, 0, none⟩) n n)).run Tryz.prog (W.alloc X) = .ok (.string t) (W.alloc X)) := by
  obtain ⟨i0, hi0, hz0, hz1, hz2⟩ := info_parts infoU8
  refine ⟨.cells (madeCells #[.int .u8 0] n) 5, txt (List.replicate n 0), by rw [txt_size, List.length_replicate], fun W => run_make_row (P := Tryz.prog) 77 5 i0 _ Tryz.underlying77 hi0 hz0 hz1 rfl .i64 .i64 n (by rw [hz2]; omega) (by omega) W, fun W => ?_⟩
  have h := run_convert_bytes_back (P := Tryz.prog) (W.alloc (.cells (madeCells #[.int .u8 0] n) 5)) 77 9 5 ⟨W.heap.size, 0, none⟩ n (List.replicate n 0) Tryz.underlying77 Tryz.underlying5 Tryz.underlying9 (fun j hj => by
    have hb := Blk.new W 5 (madeCells #[.int .u8 0] n).toList
    rw [Array.toArray_toList] at hb
    rw [Addr.add_lit, Nat.zero_add, hb.cell j]
    have hj2 : j < n := by rwa [List.length_replicate] at hj
    simp [madeCells, hj2, Nat.mod_one])
  rw [List.length_replicate] at h
  exact h
theorem mk_ints (n : Nat) (hn : n ≤ 100000000) : ∃ X : Obj, ∀ W : World, (Instr.makeSlice 37 (.int .i64 (n : Int)) (.int .i64 (n : Int))).run Tryz.prog W = .ok (.slice (some ⟨W.heap.size, 0, none⟩) n n) (W.alloc X) := by
  obtain ⟨i0, hi0, hz0, hz1, hz2⟩ := info_parts (show (Tryz.prog.info? 3).map (fun i => (i.zero, i.size, i.bytes)) = some (some (.int .i64 0), 1, 8) by kernel_rfl)
  exact ⟨_, fun W => run_make_row (P := Tryz.prog) 37 3 i0 _ Tryz.underlying37 hi0 hz0 hz1 rfl .i64 .i64 n (by rw [hz2]; omega) (by omega) W⟩
/-! ### what may be, by its length -/
theorem may_get (t : ByteArray) : mayOp ⟨2, 0, t, ⟨#[]⟩, ⟨#[]⟩, 0, 0⟩ = decide (t.size ≤ 512) := by
  unfold mayOp
  rw [show getI namedL 2 = some 5 from rfl]
  simp [mayW, hasF, show bits .and .i64 5 1 = 1 from rfl, show bits .and .i64 5 2 = 0 from rfl, show bits .and .i64 5 4 = 4 from rfl, show bits .and .i64 5 8 = 0 from rfl, show bits .and .i64 5 16 = 0 from rfl, show bits .and .i64 5 32 = 0 from rfl, toList_bs, show bs ⟨#[]⟩ = [] from rfl, show ByteArray.size ⟨#[]⟩ = 0 from rfl]
theorem may_put (t : ByteArray) : mayOp ⟨4, 0, ⟨#[97]⟩, ⟨#[]⟩, t, 0, 0⟩ = decide (t.size ≤ 512) := by
  unfold mayOp
  rw [show getI namedL 4 = some 21 from rfl]
  simp [mayW, hasF, show bits .and .i64 21 1 = 1 from rfl, show bits .and .i64 21 2 = 0 from rfl, show bits .and .i64 21 4 = 4 from rfl, show bits .and .i64 21 8 = 0 from rfl, show bits .and .i64 21 16 = 16 from rfl, show bits .and .i64 21 32 = 0 from rfl, toList_bs, show bs ⟨#[]⟩ = [] from rfl, show ByteArray.size ⟨#[]⟩ = 0 from rfl, show ByteArray.size ⟨#[97]⟩ = 1 from rfl]
theorem may_crash (l : List Int) : mayAct ⟨7, 0, 0, 0, opZero, l⟩ = decide (l.length ≤ 512) := by
  unfold mayAct
  rw [show getI ofActL 7 = some 17 from rfl]
  simp [mayA, hasF, show bits .and .i64 17 1 = 1 from rfl, show bits .and .i64 17 2 = 0 from rfl, show bits .and .i64 17 4 = 0 from rfl, show bits .and .i64 17 8 = 0 from rfl, show bits .and .i64 17 16 = 16 from rfl, show opIsZ opZero = true by simp [opIsZ, opZero, toList_bs, show bs ⟨#[]⟩ = [] from rfl]]
theorem get_call (t : ByteArray) (b : Bool) (hb : decide (t.size ≤ 512) = b) (W : World) : Calls Tryz.prog 19 #[.agg #[.int .i64 2, .int .u64 0, .string t, .string ⟨#[]⟩, .string ⟨#[]⟩, .int .i64 0, .int .u64 0]] W fun e w' => e = .returned (.bool b) ∧ Below W.heap.size W w' := by
  have h := mayop_any 2 0 t ⟨#[]⟩ ⟨#[]⟩ 0 0 W
  rw [may_get, hb] at h
  exact h
theorem put_call (t : ByteArray) (b : Bool) (hb : decide (t.size ≤ 512) = b) (W : World) : Calls Tryz.prog 19 #[.agg #[.int .i64 4, .int .u64 0, .string ⟨#[97]⟩, .string ⟨#[]⟩, .string t, .int .i64 0, .int .u64 0]] W fun e w' => e = .returned (.bool b) ∧ Below W.heap.size W w' := by
  have h := mayop_any 4 0 ⟨#[97]⟩ ⟨#[]⟩ t 0 0 W
  rw [may_put, hb] at h
  exact h
theorem crash_call (n : Nat) (b : Bool) (hb : decide (n ≤ 512) = b) (p : Option Addr) (W : World) : Calls Tryz.prog 27 #[.agg #[.int .i64 7, .int .i64 0, .int .i64 0, .int .i64 0, .int .i64 0, .int .u64 0, .string ⟨#[]⟩, .string ⟨#[]⟩, .string ⟨#[]⟩, .int .i64 0, .int .u64 0, .slice p n n]] W fun e w' => e = .returned (.bool b) ∧ Below W.heap.size W w' := by
  have h := mayact_any 7 0 0 0 0 0 ⟨#[]⟩ ⟨#[]⟩ ⟨#[]⟩ 0 0 (List.replicate n 0) p n W
  rw [show (⟨7, 0, 0, 0, ⟨0, 0, ⟨#[]⟩, ⟨#[]⟩, ⟨#[]⟩, 0, 0⟩, List.replicate n 0⟩ : Ar) = ⟨7, 0, 0, 0, opZero, List.replicate n 0⟩ from rfl, may_crash, List.length_replicate, hb] at h
  exact h
/-! ### lines of the head -/
theorem edge_cuts_le {c : UInt8} : ∀ {l : Bs} {x : Bs}, x ∈ cutsL c l → x.length ≤ l.length
  | [], x, h => by
    simp only [cutsL, List.mem_singleton] at h
    subst h; exact Nat.le_refl _
  | y :: l, x, h => by
    rcases first_at c (y :: l) with hno | ⟨p, r, hpr, hno⟩
    · rw [cutsL_end c _ hno, List.mem_singleton] at h
      subst h; exact Nat.le_refl _
    · rw [hpr] at h ⊢
      rw [cutsL_at c p r hno] at h
      rw [List.length_append, List.length_cons]
      rcases List.mem_cons.1 h with rfl | h
      · omega
      · have := congrArg List.length hpr
        rw [List.length_append, List.length_cons, List.length_cons] at this
        have hlt : r.length < (y :: l).length := by rw [List.length_cons]; omega
        have := edge_cuts_le h; omega
termination_by l => l.length
theorem wrong_few (t : ByteArray) (k : Nat) (hp : parseT t = .error k) (ht : t.size ≤ 1000) (w : World) (henv : Env w) :
    Calls Tryz.prog 41 #[.string t, .int .i64 k] w fun e w' => e = .returned (.bool true) ∧ Below w.heap.size w w' :=
  wrong_any t k hp (by omega) (fun c hc => by have := edge_cuts_le hc; rw [bs_length] at this; omega) w henv
theorem head_ne : headScr ≠ scrZ := fun h => by
  have := congrArg (fun s : Scr => s.set.nodes) h
  simp [headScr, headS, scrZ, supZ] at this
theorem headLen : (lnB headL).length = 47 := by decide
set_option maxRecDepth 100000 in
set_option maxHeartbeats 2000000 in
theorem wrong_whole (w : World) (henv : Env w) :
    Calls Tryz.prog 41 #[.string (txt (lnB headL)), .int .i64 0] w fun e w' => e = .returned (.bool false) ∧ Below w.heap.size w w' := by
  have hpar : ∀ W, Env W → Calls Tryz.prog 36 #[.string (txt (lnB headL))] W fun e w' => (∃ pa pc, e = .returned (.tuple #[.agg #[.int .i64 2, .int .i64 900, .int .i64 4, .int .i64 1, .int .i64 0, .slice pa 0 pc], .int .i64 0, .int .i64 0])) ∧ Below W.heap.size W w' := fun W hE =>
    (parse_any (txt (lnB headL)) (by rw [txt_size, headLen]; omega) (fun c hc => by have := edge_cuts_le hc; rw [bs_length, txt_size, headLen] at this; omega) W hE).mono fun e w' ⟨h1, h2⟩ => by
      rw [edge_whole] at h1
      obtain ⟨pa, pc, h1, _⟩ := h1
      exact ⟨⟨pa, pc, h1⟩, h2⟩
  have hsame : ∀ W pa pc, Calls Tryz.prog 34 #[.agg #[.int .i64 2, .int .i64 900, .int .i64 4, .int .i64 1, .int .i64 0, .slice pa 0 pc], .agg #[.int .i64 0, .int .i64 0, .int .i64 0, .int .i64 0, .int .i64 0, .slice none 0 0]] W fun e w' => e = .returned (.bool false) ∧ Below W.heap.size W w' := fun W pa pc =>
    (refsames_any headScr scrZ pa none pc 0 W (by simp [headScr]) (fun a ha => by cases ha) (fun a ha => by cases ha) (ActsAt.nil _ _) (ActsAt.nil _ _)).mono fun e w' ⟨⟨r, he, hr⟩, h2⟩ => ⟨by
      cases r with
      | false => exact he
      | true => exact absurd (hr.1 rfl) head_ne, h2⟩
  generalize txt (lnB headL) = t at *
  have HPar := Lib.hid hpar
  have HS := Lib.hid hsame
  have HE := Lib.hid henv
  clear hpar hsame henv
  go_enter Tryz.func41, Tryz.ntmps41
  go_wp2_with fail
  refine (HPar.out _ HE.out).mono ?_
  rintro e w1 ⟨⟨pa, pc, rfl⟩, hb1⟩
  go_wp2_with (go_at_call 34; refine (HS.out _ _ _).mono ?_; rintro e w2 ⟨rfl, hb2⟩)
  go_ret
  exact ⟨rfl, by
    have h1 := hb1.alloc hb1.size (.cells #[.int .i64 2, .int .i64 900, .int .i64 4, .int .i64 1, .int .i64 0, .slice pa 0 pc] 63)
    exact h1.trans (hb2.mono h1.size)⟩
theorem setLen : ∀ k, k < 5 → (lnB (headL.set k ((oddL[k]?).getD ⟨#[]⟩))).length ≤ 100 := by decide
theorem takeLen : ∀ k, k < 5 → (lnB (headL.take k)).length ≤ 100 := by decide
theorem dropLen : ∀ k, k < 5 → (lnB (headL.drop k)).length ≤ 100 := by decide
/-- a made act laid into its place -/
theorem wpList_fil {ops : Array Oper} {rest : List Oper} {o : Oper} {a : Act} {w : World} {Q : Exit → Act → World → Prop} (hgd : o.guard = none) (x y : Operand) (ho : o.op = .store 39 x y)
    (g k : Nat) (hx : a.eval x = .pointer (some ⟨g, k * 12, none⟩)) (hy : a.eval y = .agg tickC.toArray) (hf : Fil w g k) (hk : k < 65537)
    (h : ∀ w', Fil w' g (k + 1) → w.grownBy w' (some g) → wpList Tryz.prog ops Q rest (a.put o.dst undef) w') : wpList Tryz.prog ops Q (o :: rest) a w :=
  wpList_store_mid hgd 39 x y ho g (k * 12) tickC.toArray hx hy (hf.part hk) infoAct (by simp [tickC, actCells, Value.oneCell']) (h _ (hf.store hk) (grown_setCells _ _ _ _))
theorem edges_text : ∃ (LA LB : List Ar) (t : ByteArray), (∀ W g, Fil W g 65537 → ActsAt W (some ⟨g, 0, none⟩) LA ∧ ActsAt W (some ⟨g, 12, none⟩) LB) ∧
    (∀ W p c, Env W → ActsAt W p LA → Calls Tryz.prog 33 #[.agg #[.int .i64 2, .int .i64 900, .int .i64 4, .int .i64 1, .int .i64 0, .slice p 65537 c]] W fun e w' => e = .returned (.tuple #[.string ⟨#[]⟩, .int .i64 3]) ∧ Below W.heap.size W w') ∧
    (∀ W p c, Env W → ActsAt W p LB → Calls Tryz.prog 33 #[.agg #[.int .i64 2, .int .i64 900, .int .i64 4, .int .i64 1, .int .i64 0, .slice p 65536 c]] W fun e w' => e = .returned (.tuple #[.string t, .int .i64 0]) ∧ Below W.heap.size W w') := by
  obtain ⟨t, ht⟩ := tick_fits 65536 (Nat.le_refl _)
  refine ⟨List.replicate 65537 tickA, List.replicate 65536 tickA, t, fun W g h => ⟨?_, ?_⟩, fun W p c hE hA => ?_, fun W p c hE hA => ?_⟩
  · have := h.acts 0 65537 (Nat.le_refl _)
    rwa [Nat.zero_mul] at this
  · have := h.acts 1 65536 (Nat.le_refl _)
    rwa [Nat.one_mul] at this
  · have := tick_call 65537 (by omega) p c W hE hA
    rwa [tick_long 65537 (by omega)] at this
  · have := tick_call 65536 (by omega) p c W hE hA
    rwa [ht] at this
theorem lines_few (l : List ByteArray) (n : Nat) (hn : l.length = n) (hz : (lnB l).length ≤ 100) (hl : l.length ≤ 10) : ∃ t : ByteArray, txt (lnB l) = t ∧ t.size ≤ 100 ∧ ∀ W p c, StrAt W p l → Calls Tryz.prog 40 #[.slice p n c] W fun e w' => e = .returned (.string t) ∧ Below W.heap.size W w' := by
  refine ⟨_, rfl, by rw [txt_size]; exact hz, fun W p c h => ?_⟩
  subst hn
  exact lines_any l p c W h (by omega) (by omega)
structure EdgeK (k : Nat) (x T1 T2 T3 : ByteArray) : Prop where
  hx : oddL[k]? = some x
  l1 : ∀ W p c, StrAt W p (headL.set k x) → Calls Tryz.prog 40 #[.slice p 5 c] W fun e w' => e = .returned (.string T1) ∧ Below W.heap.size W w'
  w1 : ∀ W (n : Int), n = k → Env W → Calls Tryz.prog 41 #[.string T1, .int .i64 n] W fun e w' => e = .returned (.bool true) ∧ Below W.heap.size W w'
  l2 : ∀ W p c n, n = k → StrAt W p (headL.take k) → Calls Tryz.prog 40 #[.slice p n c] W fun e w' => e = .returned (.string T2) ∧ Below W.heap.size W w'
  w2 : ∀ W (n : Int), n = k → Env W → Calls Tryz.prog 41 #[.string T2, .int .i64 n] W fun e w' => e = .returned (.bool true) ∧ Below W.heap.size W w'
  l3 : ∀ W p c n, n = 5 - k → StrAt W p (headL.drop k) → Calls Tryz.prog 40 #[.slice p n c] W fun e w' => e = .returned (.string T3) ∧ Below W.heap.size W w'
  w3 : ∀ W b, decide (0 < k) = b → Env W → Calls Tryz.prog 41 #[.string T3, .int .i64 0] W fun e w' => e = .returned (.bool b) ∧ Below W.heap.size W w'
theorem headL_len : headL.length = 5 := rfl
theorem edge_k (k : Nat) (hk : k < 5) : ∃ x T1 T2 T3, EdgeK k x T1 T2 T3 := by
  have hx : oddL[k]? = some (oddL[k]'hk) := List.getElem?_eq_getElem hk
  have e1 := edge_odd k hk
  have z1 := setLen k hk
  rw [hx] at e1 z1
  simp only [Option.getD_some] at e1 z1
  obtain ⟨T1, h1, s1, c1⟩ := lines_few (headL.set k (oddL[k]'hk)) 5 (by rw [List.length_set]; rfl) z1 (by rw [List.length_set]; decide)
  obtain ⟨T2, h2, s2, c2⟩ := lines_few (headL.take k) k (by rw [List.length_take, headL_len]; omega) (takeLen k hk) (by rw [List.length_take, headL_len]; omega)
  obtain ⟨T3, h3, s3, c3⟩ := lines_few (headL.drop k) (5 - k) (by rw [List.length_drop, headL_len]) (dropLen k hk) (by rw [List.length_drop, headL_len]; omega)
  rw [h1] at e1
  have e2 := edge_take k hk
  rw [h2] at e2
  refine ⟨_, T1, T2, T3, hx, c1, fun W n hn hE => by subst hn; exact wrong_few T1 k e1 (by omega) W hE, fun W p c n hn h => by subst hn; exact c2 W p c h, fun W n hn hE => by subst hn; exact wrong_few T2 k e2 (by omega) W hE, fun W p c n hn h => by subst hn; exact c3 W p c h, fun W b hb hE => ?_⟩
  subst hb
  by_cases h0 : 0 < k
  · have e3 := edge_drop k hk h0
    rw [h3] at e3
    rw [decide_eq_true h0]
    exact wrong_few T3 0 e3 (by omega) W hE
  · obtain rfl : k = 0 := by omega
    rw [List.drop_zero] at h3
    subst h3
    exact wrong_whole W hE
structure EdgeZ (T6 TH : ByteArray) : Prop where
  l6 : ∀ W p c, StrAt W p sixL → Calls Tryz.prog 40 #[.slice p 5 c] W fun e w' => e = .returned (.string T6) ∧ Below W.heap.size W w'
  w6 : ∀ W, Env W → Calls Tryz.prog 41 #[.string T6, .int .i64 4] W fun e w' => e = .returned (.bool true) ∧ Below W.heap.size W w'
  lh : ∀ W p c, StrAt W p headL → Calls Tryz.prog 40 #[.slice p 5 c] W fun e w' => e = .returned (.string TH) ∧ Below W.heap.size W w'
  sz : TH.size ≤ 100
  wa : ∀ W, Env W → Calls Tryz.prog 41 #[.string (TH ++ ⟨#[116, 105, 99, 107, 32, 49]⟩), .int .i64 5] W fun e w' => e = .returned (.bool true) ∧ Below W.heap.size W w'
  wb : ∀ W, Env W → Calls Tryz.prog 41 #[.string (TH ++ ⟨#[10]⟩), .int .i64 5] W fun e w' => e = .returned (.bool true) ∧ Below W.heap.size W w'
  wc : ∀ W, Env W → Calls Tryz.prog 41 #[.string (TH ++ ⟨#[116, 105, 99, 107, 32, 49, 10, 110, 111, 100, 101, 115, 32, 50, 10]⟩), .int .i64 6] W fun e w' => e = .returned (.bool true) ∧ Below W.heap.size W w'
theorem txt_app (l : Bs) (x : ByteArray) : (txt l ++ x : ByteArray) = txt (l ++ bs x) := by
  apply bs_inj
  rw [bs_txt]
  simp
  exact bs_txt l
theorem edge_z : ∃ T6 TH, EdgeZ T6 TH := by
  obtain ⟨T6, h6, s6, c6⟩ := lines_few sixL 5 rfl (by decide) (by decide)
  obtain ⟨TH, hh, sh, ch⟩ := lines_few headL 5 rfl (by decide) (by decide)
  have e6 := edge_six
  rw [h6] at e6
  have ea := edge_tick
  have eb := edge_blank
  have ec := edge_two
  have z : ∀ x : ByteArray, x.size ≤ 100 → (TH ++ x).size ≤ 1000 := fun x hx => by rw [ByteArray.size_append]; omega
  refine ⟨T6, TH, c6, fun W hE => wrong_few T6 4 e6 (by omega) W hE, ch, sh, fun W hE => wrong_few _ 5 ?_ (z _ (by decide)) W hE, fun W hE => wrong_few _ 5 ?_ (z _ (by decide)) W hE, fun W hE => wrong_few _ 6 ?_ (z _ (by decide)) W hE⟩
  · rw [← hh, txt_app]; exact ea
  · rw [← hh, txt_app]; exact eb
  · rw [← hh, txt_app]; exact ec
theorem strRow_of {W : World} {g : Nat} {l : List ByteArray} (h : Blk W g 9 (l.map Value.string)) : StrRow W g l := ⟨h.lt, fun j x hx => by
  rw [h.cell j, List.getElem?_map, hx]; rfl⟩
theorem OwnS.free {w : World} {base : Nat} {v : Value} {l : List ByteArray} (h : OwnS w base v l) (hl : l ≠ []) : ∃ g c, v = .slice (some ⟨g, 0, none⟩) l.length c ∧ base ≤ g ∧ StrRow w g l ∧ ∀ j, w.frozen? ⟨g, j, none⟩ = false := by
  obtain ⟨g, c, hv, _, hb, hr⟩ := h.rowAt hl
  refine ⟨g, c, hv, hb, hr, fun j => ?_⟩
  rcases h.2 with ⟨_, hx⟩ | ⟨g2, cap, cur, hv2, _, hh, _, _⟩
  · exact absurd (List.eq_nil_of_length_eq_zero hx) hl
  · rw [hv] at hv2
    injection hv2 with e1 _ _
    injection e1 with e1
    injection e1 with e1 _ _
    subst e1
    have hB : Blk w g 9 cur.toList := by unfold Blk; rw [Array.toArray_toList]; exact hh
    exact hB.frozen j
end Go.Proofs.YtgplaeopcejmoaaGreatDoor
