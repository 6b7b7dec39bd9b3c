/- The walk of OpText. -/
import Derived.Test.YtgplaeopcejmoaaGreatDoorOptext
import Derived.Deep.DeepCutAuto
namespace Go.Proofs.YtgplaeopcejmoaaGreatDoor
open Go.RowKit Go.Shelf

attribute [local go_sem] Oper.semAt_some

theorem own_blk {β : Type} (g : Nat) (e : TypeId) (L : List Value) : Own (fun (_ : β) W => Blk W g e L) := fun _ A _ _ hs hg hr => hs.grown hg (fun e' => by
  obtain ⟨o, ho, hc⟩ := hr g e'.symm
  rw [show A.heap[g]? = _ from hs] at ho; cases ho; cases hc)
theorem own_owns {β : Type} (base : Nat) (v : β → Value) (l : β → List ByteArray) : Own (fun s W => OwnS W base (v s) (l s)) := fun s A _ _ hs hg hr => by
  refine World.ownsRow.kept hs hg ?_
  cases e : (v s).ownBlock with
  | none => exact .inl rfl
  | some g =>
    refine .inr fun e' => ?_
    obtain ⟨o, ho, hc⟩ := hr g e'.symm
    rcases hs.2 with ⟨hv, _⟩ | ⟨g', cap, cur, hv, _, hgb, _⟩
    · rw [hv] at e; simp [Value.ownBlock] at e
    · rw [hv] at e
      obtain rfl : g' = g := by simpa [Value.ownBlock] using e
      rw [hgb] at ho; cases ho; cases hc

/-- what stands ahead of the names' cell -/
structure Bef (B : Nat) (w0 w : World) (o : Opr) (sb D : Nat) (l : List ByteArray) : Prop where
  base : B = w0.heap.size + 1
  below : Below w0.heap.size w0 w
  box : Blk w w0.heap.size 34 (opCells o)
  row : ∃ v, Blk w sb 48 [v] ∧ OwnS w B v l
  dfr : w.heap[D]? = some (.deferred (some []))
  sbB : w0.heap.size < sb
  dB : w0.heap.size < D
theorem Bef.next {B : Nat} {w0 w w' : World} {o : Opr} {sb D : Nat} {l : List ByteArray} (h : Bef B w0 w o sb D l) (hb : Below w.heap.size w w') : Bef B w0 w' o sb D l where
  base := h.base
  below := h.below.trans (hb.mono h.below.size)
  box := h.box.below hb h.box.lt
  row := by
    obtain ⟨v, h1, h2⟩ := h.row
    exact ⟨v, h1.below hb h1.lt, h2.below hb⟩
  dfr := (hb.block D (Array.getElem?_eq_some_iff.1 h.dfr).1).trans h.dfr
  sbB := h.sbB
  dB := h.dB
theorem Bef.alloc {B : Nat} {w0 w : World} {o : Opr} {sb D : Nat} {l : List ByteArray} (h : Bef B w0 w o sb D l) (x : Obj) : Bef B w0 (w.alloc x) o sb D l := h.next ((Below.refl _ _).alloc (Nat.le_refl _) _)
theorem Bef.drew {B : Nat} {w0 w : World} {o : Opr} {sb D : Nat} {l : List ByteArray} (h : Bef B w0 w o sb D l) : Bef B w0 w.drew o sb D l := h.next ((Below.refl _ _).drew)
theorem Bef.set {B : Nat} {w0 w : World} {o : Opr} {sb D nb : Nat} {l : List ByteArray} (h : Bef B w0 w o sb D l) {u : Value} (hN : Blk w nb 3 [u]) (hnb : w0.heap.size < nb) (v' : Value) : Bef B w0 (w.setCell ⟨nb, 0, none⟩ v') o sb D l := by
  obtain ⟨v, hs, ho⟩ := h.row
  have nsb : sb ≠ nb := by
    intro e
    rw [← e] at hN
    have := hs.symm.trans hN
    simp at this
  have ndf : D ≠ nb := by
    intro e
    have h1 := h.dfr
    rw [e] at h1
    have := hN.symm.trans h1
    simp at this
  exact ⟨h.base, h.below.setCell (p := ⟨nb, 0, none⟩) (Nat.le_of_lt hnb) _, h.box.setOther (by omega) _ _, ⟨v, hs.setOther nsb _ _, World.ownsRow.kept ho (grown_setCell _ _ _ _) (.inr (Ne.symm (own_ne ho hN (by intro cur e; injection e with _ e; exact absurd e (by decide)))))⟩, (Below.heap_setCell _ _ _ _ ndf).trans h.dfr, h.sbB, h.dB⟩
theorem Bef.after {B : Nat} {w0 w : World} {o : Opr} {sb D nb : Nat} {l : List ByteArray} (h : Bef B w0 w o sb D l) {m : Int} (hN : Blk w nb 3 [.int .i64 m]) (hnb : w0.heap.size < nb) : After B w0 w o m nb sb D l :=
  ⟨h.base, h.below, h.box, hN, h.row, h.dfr, hnb, h.sbB, h.dB⟩
section
variable {P : Program} {t kt et : TypeId}
theorem run_lookup_i0 (ht : P.underlying t = some (.map kt et)) (hk : P.underlying kt = some (.int .i64)) {W : World} {g : Nat} {l : List (Int × Int)} (h : MapI W g l) (k : Int) (hz : (zeroValue et).run P W = .ok (.int .i64 0) W) :
    (Instr.lookup t (.map (some g)) (.int .i64 k) false).run P W = .ok (.int .i64 ((getI l k).getD 0)) W := by
  unfold Instr.lookup
  simp only [Sem.run_bind, run_underlying ht, Result.andThen_ok, getObj_i h, run_checkKey_i hk, Sem.run_pure, run_findKey_i hk]
  rw [← getI_find k l 0]
  cases hf : findI k l 0 with
  | none => simp [hz]
  | some r => simp
end
theorem getI_of_may {o : Opr} (h : mayOp o = true) : ∃ m, getI namedL o.kind = some m ∧ mayW m o = true := by
  unfold mayOp at h
  cases hg : getI namedL o.kind with
  | none => rw [hg] at h; cases h
  | some m => rw [hg] at h; exact ⟨m, rfl, h⟩

theorem addF_le {l : List ByteArray} {c : Nat} (h : l.length ≤ c) (m f : Int) (x : ByteArray) : (addF m f x l).length ≤ c + 1 := by
  have := addF_length m f x l
  omega
theorem addF_ne {l : List ByteArray} (h : l ≠ []) (m f : Int) (x : ByteArray) : addF m f x l ≠ [] := by
  unfold addF; split
  · simp
  · exact h
theorem addF_totle {l : List ByteArray} {c d : Nat} (h : tot l ≤ c) (m f : Int) {x : ByteArray} (hx : x.size ≤ d) : tot (addF m f x l) ≤ c + d := by
  have := addF_tot m f x l
  omega
theorem dec_size {u : Nat} (h : u < 18446744073709551616) : (dec u).size ≤ 20 := by
  show (Lib.decDigits u).toArray.size ≤ 20
  rw [List.size_toArray, Lib.decDigits_length]
  by_cases h1 : 1 ≤ u
  · have := Lib.numDigits_eq u h1 h
    split at this <;> omega
  · rw [Lib.nDigits_small (by omega)]; omega
theorem ito_size {n : Int} (h0 : -9223372036854775808 ≤ n) (h1 : n ≤ 9223372036854775807) : (ito n).size ≤ 21 := by
  show (Lib.itoa n).toArray.size ≤ 21
  rw [List.size_toArray]
  unfold Lib.itoa
  split
  · have := dec_size (u := n.natAbs) (by omega)
    have e : (dec n.natAbs).size = (Lib.decDigits n.natAbs).length := by show (Lib.decDigits n.natAbs).toArray.size = _; rw [List.size_toArray]
    simp only [List.length_cons]; omega
  · have := dec_size (u := n.toNat) (by omega)
    have e : (dec n.toNat).size = (Lib.decDigits n.toNat).length := by show (Lib.decDigits n.toNat).toArray.size = _; rw [List.size_toArray]
    omega
theorem wtx_size {s : ByteArray} (h : s.size ≤ 1000000) : (wtx s).size ≤ 3000002 := by
  show (wordL (bs s)).toArray.size ≤ _
  rw [List.size_toArray]
  have := wordL_length (bs s)
  rw [bs_length] at this
  omega
theorem nmAt_size (x : Fin 12) : (nmAt x).size ≤ 10 := by revert x; decide
theorem nmAt_name {x : Fin 12} {k : Int} (h : 1 + (x.val : Int) = k) : nmAt x = opName k := by
  unfold nmAt opName
  subst h
  rw [if_pos (by omega)]
  have : (1 + (x.val : Int) - 1).toNat = x.val := by omega
  rw [this]

set_option maxRecDepth 100000 in
set_option maxHeartbeats 4000000 in
theorem optext_any (o : Opr) (hn : o.n < 18446744073709551616) (hlsn : o.lsn < 18446744073709551616) (hl0 : -9223372036854775808 ≤ o.level) (hl1 : o.level ≤ 9223372036854775807) (w : World) (henv : Env w) :
    Calls Tryz.prog 17 #[opV o] w fun e w' => e = .returned (opTextR o) ∧ Below w.heap.size w w' := by
  have hBox := Blk.new w 34 (opCells o)
  obtain ⟨k, n, key, til, value, level, lsn⟩ := o
  simp only at hn hlsn hl0 hl1
  unfold opTextR
  simp only [opV, opCells] at hBox ⊢
  obtain ⟨mo, hmo⟩ : ∃ mo, mayOp ⟨k, n, key, til, value, level, lsn⟩ = mo := ⟨_, rfl⟩
  rw [hmo]
  have HM := Lib.hid hmo; clear hmo
  have hB0 : Below w.heap.size w (w.alloc (.cells #[.int .i64 k, .int .u64 n, .string key, .string til, .string value, .int .i64 level, .int .u64 lsn] 34)) := (Below.refl _ w).alloc (Nat.le_refl _) _
  refine callsIn_wide.1 (callsIn_of_wp_marks (n := 9) Tryz.func17 rfl trivial ?_ rfl)
  refine wpIn_wide.2 ?_
  simp only [Tryz.ntmps17, List.size_toArray, List.length_cons, List.length_nil, Nat.reduceAdd, Nat.reduceSub, Array.replicate_succ, Array.replicate_zero, List.push_toArray, List.append_toArray, List.nil_append, List.cons_append]
  cases mo with
  | false =>
    go_wp2_with (go_at_call 19; refine (mayop_any k n key til value level lsn _).mono ?_; rintro e w1 ⟨rfl, hb1⟩; rw [HM.out])
    exact ⟨_, results_tmp2 rfl _ _ _, rfl, hB0.trans (hb1.mono (by simp))⟩
  | true =>
    go_wp2_with (first
      | (go_at_call 19; refine (mayop_any k n key til value level lsn _).mono ?_; rintro e w1 ⟨rfl, hb1⟩; rw [HM.out])
      | (go_at_call 51; refine (names_any _).mono ?_; rintro e w2 ⟨rfl, rfl⟩))
    have hBx : Blk w1 w.heap.size 34 [.int .i64 k, .int .u64 n, .string key, .string til, .string value, .int .i64 level, .int .u64 lsn] := hBox.below hb1 (by simp)
    have hb2 : Below w.heap.size w w1 := hB0.trans (hb1.mono (by simp))
    have hlt := hBx.lt
    have hsb := Blk.new w1 48 [.slice none 0 0]
    refine wpIn_wide.1 (wpIn_rangeFunc_ownF (n := 9) rfl (by omega) (gf := 90) (lb := #[]) rfl trivial (enters_of Tryz.func90 (by kernel_rfl) rfl) (names_stops 8 w.heap.size (by omega) _) belowK_t (belowK_b (by simp; omega)) (Below.refl _ _) (fun _ => rfl)
      (fun pre W => (Blk W w.heap.size 34 [.int .i64 k, .int .u64 n, .string key, .string til, .string value, .int .i64 level, .int .u64 lsn] ∧ Blk W w1.heap.size 48 [.slice none 0 0] ∧ ∀ x ∈ pre, 1 + (x.val : Int) ≠ k) ∧ Below w.heap.size w W)
      (fun c pre W => (∃ v x pre', (Blk W w.heap.size 34 [.int .i64 k, .int .u64 n, .string key, .string til, .string value, .int .i64 level, .int .u64 lsn] ∧ Blk W w1.heap.size 48 [v] ∧ OwnS W (w.heap.size + 1) v [nmAt x] ∧ c = .exit 0 ∧ pre = pre' ++ [x] ∧ 1 + (x.val : Int) = k)) ∧ Below w.heap.size w W)
      ?hI ?hIx ?h0 ?a1 ?assign ?body ?done ?stop)
    case hI => exact OwnFrom.and (Own.from (fun s A B row hs hg hr => ⟨own_blk _ _ _ s A B row hs.1 hg hr, own_blk _ _ _ s A B row hs.2.1 hg hr, hs.2.2⟩) _) (ownFrom_below (Nat.le_refl _) (by simp; omega))
    case hIx =>
      intro c
      refine OwnFrom.and (Own.from (fun s A B row hs hg hr => ?_) _) (ownFrom_below (Nat.le_refl _) (by simp; omega))
      obtain ⟨v, x, pre', h1, h2, h3, h4⟩ := hs
      exact ⟨v, x, pre', own_blk _ _ _ s A B row h1 hg hr, own_blk _ _ _ s A B row h2 hg hr, own_owns _ (fun _ => v) (fun _ => [nmAt x]) s A B row h3 hg hr, h4⟩
    case h0 => exact ⟨⟨hBx.alloc _, hsb, by simp⟩, hb2.alloc hb2.size _⟩
    case assign =>
      intro l x W K hK
      gi_wp2
      exact hK
    case body =>
      rintro l pre x W ⟨⟨hx1, hx2, hx3⟩, hbW⟩ _
      have c0 : W.cell? ⟨w.heap.size, 0, none⟩ = some (.int .i64 k) := hx1.cell 0
      have cs : W.cell? ⟨w1.heap.size, 0, none⟩ = some (.slice none 0 0) := hx2.cell 0
      have hxl := hx2.lt
      by_cases hk : 1 + (x.val : Int) = k
      · have hkb : (1 + (x.val : Int) == k) = true := by simpa using hk
        have hrow : W.ownsRow (w.heap.size + 1) 9 1 (.slice none 0 0) 0 [] := World.ownsRow_nil _ _ _ _
        obtain ⟨i0, hi, hz0, hz1, hz2⟩ := info_parts infoStr
        gi_wp2_with (gi_at_builtin; refine wpListIn_append_own _ rfl _ _ 48 rfl (w.heap.size + 1) 9 i0 (.string ⟨#[]⟩) 1 16 Tryz.underlying48 hi hz0 hz1 hz2 rfl (by decide) _ _ _ rfl (hrow.alloc _) ⟨W.heap.size, 0, none⟩ 1 1 [.string (nmAt x)] rfl rfl (cell_one_new _ _ _) (by simp [Value.oneCell']) (by simp [maxLen]) (by omega) (by simp; omega) ?_; intro v' w3 hown' hgrow _; obtain ⟨g', cap', rfl⟩ := ownsRow_succ hown'
                     obtain ⟨hv1, hv2, hr2, hk2, hb2⟩ := Boxed.appended (B := w1.heap.size) (t := 48) (n₀ := w.heap.size + 1) hx2 (by decide) hrow (by omega) (by omega) hown' hgrow
                     have hc1 := hv1.cell; have hf1 := hv1.frozen)
        exact ⟨hk2, ⟨⟨_, x, pre, hx1.below hb2 (by omega), hv2, hr2, rfl, rfl, hk⟩, hbW.trans (hb2.mono (by omega))⟩⟩
      · have hkb : (1 + (x.val : Int) == k) = false := by simpa using hk
        gi_wp2
        refine ⟨KeepsOthers.refl _, Below.refl _ _, ⟨hx1, hx2, fun y hy => ?_⟩, hbW⟩
        rcases List.mem_append.1 hy with hy | hy
        · exact hx3 y hy
        · rw [List.mem_singleton.1 hy]; exact hk
    case done =>
      rintro D ys W hD rfl ⟨⟨_, _, hx3⟩, _⟩ _
      exfalso
      obtain ⟨m, hg, _⟩ := getI_of_may HM.out
      have := getI_mem hg
      simp only [namedL, List.mem_cons, Prod.mk.injEq, List.not_mem_nil, or_false] at this
      have hk : 1 ≤ k ∧ k ≤ 12 := by omega
      exact hx3 ⟨(k - 1).toNat, by omega⟩ (by simp [allK]) (by simp; omega)
    case stop =>
      rintro D c pre W hD hpre ⟨⟨v, x, pre', hx1, hx2, hx3, rfl, rfl, hk⟩, hbW⟩ hK
      refine wpIn_wide.2 ?_
      have hz : ∀ W, (zeroValue 3).run Tryz.prog W = .ok (.int .i64 0) W := fun W => by kernel_rfl
      obtain ⟨m, hg, hw⟩ := getI_of_may HM.out
      have HW := Lib.hid hw; have HG := Lib.hid hg; clear hw hg
      simp only at HG HW
      have hP : Bef (w.heap.size + 1) w W ⟨k, n, key, til, value, level, lsn⟩ w1.heap.size D [nmAt x] := ⟨rfl, hbW, hx1, ⟨v, hx2, hx3⟩, hK, hlt, by simp at hD; omega⟩
      have cW : W.cell? ⟨w.heap.size, 0, none⟩ = some (.int .i64 k) := hP.box.cell 0
      have hWlt : w.heap.size < W.heap.size := hP.box.lt
      have HP := Lib.hid hP; clear hP
      have HK := Lib.hid hk; clear hk
      clear hBox hB0 hb1 hsb hBx hx1 hx2 hx3 hK hbW
      go_wp2
      go_cut [7] from 23 to 26 (fun p wx => ∃ nb, p = .pointer (some ⟨nb, 0, none⟩) ∧ After (w.heap.size + 1) w wx ⟨k, n, key, til, value, level, lsn⟩ m nb w1.heap.size D [nmAt x])
      case first =>
        refine Code.wp_mono (Q := Exit.then ?KK (fun _ _ _ => False)) ?mono ?main
        case mono =>
          intro e a w h
          cases e with
          | normal => exact h
          | _ => exact h.elim
        go_region_with (go_at_call 52; refine (named_any _).mono ?_; rintro e w3 ⟨g, rfl, hm, hb3⟩
                        try replace hb3 := below_undrew hb3
                        have hP3 : Bef (w.heap.size + 1) w w3 ⟨k, n, key, til, value, level, lsn⟩ w1.heap.size D [nmAt x] := by
                          first
                          | exact HP.out.next hb3
                          | exact (HP.out.alloc _).next hb3
                        have c0 : w3.cell? ⟨w.heap.size, 0, none⟩ = some (.int .i64 k) := hP3.box.cell 0
                        have hlt3 : w.heap.size < w3.heap.size := hP3.box.lt
                        try (have hN : Blk w3 W.heap.size 3 [.int .i64 0] := (show Blk _ _ _ _ from (by have := Blk.new W 3 [.int .i64 0]; simpa using this.below hb3 (by simp)))
                             have cN : w3.cell? ⟨W.heap.size, 0, none⟩ = some (.int .i64 0) := hN.cell 0
                             have fN : w3.frozen? ⟨W.heap.size, 0, none⟩ = false := hN.frozen 0
                             have hNlt : W.heap.size < w3.heap.size := hN.lt
                             have HN1 := Lib.hid hN; clear hN)
                        have HP3 := Lib.hid hP3; clear hP3
                        have hlk := run_lookup_i0 Tryz.underlying100 Tryz.underlying31 hm k (hz _); rw [HG.out] at hlk
                        have hlk2 := fun o => run_lookup_i0 Tryz.underlying100 Tryz.underlying31 (MapI.alloc hm o) k (hz _)
                        rw [HG.out] at hlk2)
        all_goals
          go_wp2_with fail
          go_meet
          first
          | exact ⟨_, rfl, Bef.after (HP3.out.alloc _) (Blk.new w3 3 [.int .i64 m]) hlt3⟩
          | exact ⟨_, rfl, Bef.after (HP3.out.set HN1.out hWlt _) (by have := HN1.out.setCell 0 (.int .i64 m) (by simp); simpa using this) hWlt⟩
      case rest =>
        obtain ⟨nb, rfl, HA⟩ := hcut
        have hsk : key.size ≤ 1000000 ∧ til.size ≤ 1000000 ∧ value.size ≤ 1000000 := by
          have := HW.out
          simp only [mayW, Bool.and_eq_true, decide_eq_true_eq] at this
          omega
        have henv1 := henv.below HA.below
        have c1 : wc.cell? ⟨w.heap.size, 1, none⟩ = some (.int .u64 n) := HA.box.cell 1
        clear hz cW hWlt
        have hL : [nmAt x].length ≤ 1 := Nat.le_refl _
        have hT : tot [nmAt x] ≤ 10 := by rw [tot_one]; exact nmAt_size x
        have hE : [nmAt x] ≠ [] := by simp
        have HE := henv1
        clear henv1
        go_wp2_with (first
          | (go_at_call 54; ((with_reducible refine (natural_any n hn _ HE).mono ?_); rintro e wx ⟨rfl, hbx⟩; replace HA := HA.next hbx; clear hbx))
          | (go_at_call 53; ((with_reducible refine (tell_any _ _ _ _ _ _ _ _ _ 1 (dec n) HA (Nat.le_trans hL (by decide))).mono ?_); rintro e wx ⟨⟨r, rfl⟩, HA⟩; replace hL := addF_le hL m 1 (dec n); replace hT := addF_totle hT m 1 (dec_size hn); replace hE := addF_ne hE m 1 (dec n); have HE := henv.below HA.below; have cc : wx.cell? ⟨w.heap.size, 6, none⟩ = some (.int .u64 (lsn : Int)) := HA.box.cell 6))
          | (go_at_call 54; ((with_reducible refine (natural_any lsn hlsn _ HE).mono ?_); rintro e wx ⟨rfl, hbx⟩; replace HA := HA.next hbx; clear hbx))
          | (go_at_call 53; ((with_reducible refine (tell_any _ _ _ _ _ _ _ _ _ 2 (dec lsn) HA (Nat.le_trans hL (by decide))).mono ?_); rintro e wx ⟨⟨r, rfl⟩, HA⟩; replace hL := addF_le hL m 2 (dec lsn); replace hT := addF_totle hT m 2 (dec_size hlsn); replace hE := addF_ne hE m 2 (dec lsn); have HE := henv.below HA.below; have cc : wx.cell? ⟨w.heap.size, 2, none⟩ = some (.string key) := HA.box.cell 2))
          | (go_at_call 15; ((with_reducible refine (word_any key hsk.1 _).mono ?_); rintro e wx ⟨rfl, hbx⟩; replace HA := HA.next hbx; clear hbx))
          | (go_at_call 53; ((with_reducible refine (tell_any _ _ _ _ _ _ _ _ _ 4 (wtx key) HA (Nat.le_trans hL (by decide))).mono ?_); rintro e wx ⟨⟨r, rfl⟩, HA⟩; replace hL := addF_le hL m 4 (wtx key); replace hT := addF_totle hT m 4 (wtx_size hsk.1); replace hE := addF_ne hE m 4 (wtx key); have HE := henv.below HA.below; have cc : wx.cell? ⟨w.heap.size, 3, none⟩ = some (.string til) := HA.box.cell 3))
          | (go_at_call 15; ((with_reducible refine (word_any til hsk.2.1 _).mono ?_); rintro e wx ⟨rfl, hbx⟩; replace HA := HA.next hbx; clear hbx))
          | (go_at_call 53; ((with_reducible refine (tell_any _ _ _ _ _ _ _ _ _ 8 (wtx til) HA (Nat.le_trans hL (by decide))).mono ?_); rintro e wx ⟨⟨r, rfl⟩, HA⟩; replace hL := addF_le hL m 8 (wtx til); replace hT := addF_totle hT m 8 (wtx_size hsk.2.1); replace hE := addF_ne hE m 8 (wtx til); have HE := henv.below HA.below; have cc : wx.cell? ⟨w.heap.size, 4, none⟩ = some (.string value) := HA.box.cell 4))
          | (go_at_call 15; ((with_reducible refine (word_any value hsk.2.2 _).mono ?_); rintro e wx ⟨rfl, hbx⟩; replace HA := HA.next hbx; clear hbx))
          | (go_at_call 53; ((with_reducible refine (tell_any _ _ _ _ _ _ _ _ _ 16 (wtx value) HA (Nat.le_trans hL (by decide))).mono ?_); rintro e wx ⟨⟨r, rfl⟩, HA⟩; replace hL := addF_le hL m 16 (wtx value); replace hT := addF_totle hT m 16 (wtx_size hsk.2.2); replace hE := addF_ne hE m 16 (wtx value); have HE := henv.below HA.below; have cc : wx.cell? ⟨w.heap.size, 5, none⟩ = some (.int .i64 level) := HA.box.cell 5))
          | (go_at_call 55; ((with_reducible refine (itoa_any level hl0 hl1 _ HE).mono ?_); rintro e wx ⟨rfl, hbx⟩; replace HA := HA.next hbx; clear hbx))
          | (go_at_call 53; ((with_reducible refine (tell_any _ _ _ _ _ _ _ _ _ 32 (ito level) HA (Nat.le_trans hL (by decide))).mono ?_); rintro e wx ⟨⟨r, rfl⟩, HA⟩; replace hL := addF_le hL m 32 (ito level); replace hT := addF_totle hT m 32 (ito_size hl0 hl1); replace hE := addF_ne hE m 32 (ito level); obtain ⟨v2, hs2, ho2⟩ := HA.row; obtain ⟨gq, capq, rfl, _, _⟩ := ho2.form hE; have cc := hs2.cell 0))
          | (go_at_call 56; ((with_reducible refine (join_own ho2 (Nat.le_trans hL (by decide)) (Nat.le_trans hT (by decide))).mono ?_); rintro e wx ⟨rfl, hbx⟩; replace HA := HA.next hbx; clear hbx)))
        refine ⟨by simp, .inl ⟨_, _, rfl, run_takeDeferred HA.dfr, ?_⟩⟩
        have hnm := nmAt_name HK.out
        have ht : opText ⟨k, n, key, til, value, level, lsn⟩ = joinS (addF m 32 (ito level) (addF m 16 (wtx value) (addF m 8 (wtx til) (addF m 4 (wtx key) (addF m 2 (dec lsn) (addF m 1 (dec n) [nmAt x])))))) := by
          unfold opText opWords
          simp only []
          rw [HG.out, hnm]
          rfl
        refine ⟨_, results_tmp2 rfl _ _ _, ?_, below_putObj HA.below (Nat.le_of_lt HA.dB) _⟩
        rw [ht]
        rfl
end Go.Proofs.YtgplaeopcejmoaaGreatDoor
