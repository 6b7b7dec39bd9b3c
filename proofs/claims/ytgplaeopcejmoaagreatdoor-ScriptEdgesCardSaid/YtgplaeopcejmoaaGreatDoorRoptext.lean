/- The walk of the document's OpText. -/
import Derived.Test.YtgplaeopcejmoaaGreatDoorRmayop
namespace Go.Proofs.YtgplaeopcejmoaaGreatDoor
open Go.RowKit

/-- what a letter names, as a word -/
def letW (o : Opr) (c : UInt8) : ByteArray :=
  if c = 110 then dec o.n else if c = 115 then dec o.lsn else if c = 108 then ito o.level else if c = 107 then wtx o.key else if c = 116 then wtx o.til else wtx o.value
theorem parts_words (o : Opr) : ∀ x : Fin 12, ∃ m, getI namedL (1 + (x.val : Int)) = some m ∧ (bs (rnpPt x)).map (letW o) = optW (hasF m 1) (dec o.n) ++ (optW (hasF m 2) (dec o.lsn) ++ (optW (hasF m 4) (wtx o.key) ++ (optW (hasF m 8) (wtx o.til) ++ (optW (hasF m 16) (wtx o.value) ++ optW (hasF m 32) (ito o.level))))) := by
  intro x
  match x with
  | ⟨0, _⟩ => exact ⟨0, rfl, rfl⟩
  | ⟨1, _⟩ => exact ⟨5, rfl, rfl⟩
  | ⟨2, _⟩ => exact ⟨13, rfl, rfl⟩
  | ⟨3, _⟩ => exact ⟨21, rfl, rfl⟩
  | ⟨4, _⟩ => exact ⟨5, rfl, rfl⟩
  | ⟨5, _⟩ => exact ⟨1, rfl, rfl⟩
  | ⟨6, _⟩ => exact ⟨33, rfl, rfl⟩
  | ⟨7, _⟩ => exact ⟨33, rfl, rfl⟩
  | ⟨8, _⟩ => exact ⟨1, rfl, rfl⟩
  | ⟨9, _⟩ => exact ⟨34, rfl, rfl⟩
  | ⟨10, _⟩ => exact ⟨0, rfl, rfl⟩
  | ⟨11, _⟩ => exact ⟨0, rfl, rfl⟩
theorem parts_text (o : Opr) (x : Fin 12) (hk : o.kind = 1 + (x.val : Int)) : opText o = joinS (nmAt x :: (bs (rnpPt x)).map (letW o)) := by
  obtain ⟨m, hm, hw⟩ := parts_words o x
  rw [← hk] at hm
  rw [opText_eq hm, opWords_opt, hw, hk, opName_at]
theorem parts_letters : ∀ x : Fin 12, ∀ c ∈ bs (rnpPt x), c = 110 ∨ c = 115 ∨ c = 108 ∨ c = 107 ∨ c = 116 ∨ c = 118 := by decide
theorem refbig_any (u : Nat) (hu64 : u < 18446744073709551616) (w : World) (henv : Env w) :
    Calls Tryz.prog 65 #[.int .u64 u] w fun e w' => e = .returned (.string (dec u)) ∧ Below w.heap.size w w' := by
  go_enter Tryz.func65, Tryz.ntmps65
  go_wp2_with (go_at_call 91; refine (fmtU u hu64 _ henv.tab).mono ?_; rintro e w' ⟨rfl, hb⟩)
  go_ret
  exact ⟨rfl, hb⟩
theorem wtx_size2 {s : ByteArray} (h : s.size ≤ 2000) : (wtx s).size ≤ 6002 := by
  have := wordL_length (bs s)
  rw [bs_length] at this
  show (wordL (bs s)).toArray.size ≤ _
  rw [List.size_toArray]; omega
theorem letW_size {o : Opr} (ok : OprOk o) (h1 : o.key.size ≤ 2000) (h2 : o.til.size ≤ 2000) (h3 : o.value.size ≤ 2000) (c : UInt8) : (letW o c).size ≤ 6002 := by
  have a1 := dec_size ok.n; have a2 := dec_size ok.lsn; have a3 := ito_size ok.level.1 ok.level.2
  have a4 := wtx_size2 h1; have a5 := wtx_size2 h2; have a6 := wtx_size2 h3
  unfold letW
  split
  · omega
  · split
    · omega
    · split
      · omega
      · split
        · omega
        · split <;> omega
/-- the text so far -/
def soFar (nm p : ByteArray) (f : UInt8 → ByteArray) (k : Nat) (s : ByteArray) : Prop := bs s = bs nm ++ (((bs p).take k).map fun c => sp (f c)).flatten
theorem soFar_next {nm p s : ByteArray} {f : UInt8 → ByteArray} {k : Nat} {c : UInt8} (h : soFar nm p f k s) (hc : (bs p)[k]? = some c) : soFar nm p f (k + 1) (s ++ ⟨#[32]⟩ ++ f c) := by
  unfold soFar at *
  obtain ⟨hl, hc⟩ := List.getElem?_eq_some_iff.1 hc
  rw [List.take_succ_eq_append_getElem hl, hc, List.map_append, List.flatten_append, ← List.append_assoc, ← h]
  simp [bs, sp, ByteArray.data_append]
theorem soFar_end {nm p s : ByteArray} {f : UInt8 → ByteArray} (h : soFar nm p f p.size s) : s = joinS (nm :: (bs p).map f) := by
  unfold soFar at h
  rw [← bs_length, List.take_length] at h
  rw [joinS_cons, List.map_map]
  rw [← txt_bs s, h]
  rfl
theorem nm_size : ∀ x : Fin 12, (nmAt x).size ≤ 10 := by decide
theorem size_app (a b : ByteArray) : (a ++ b).size = a.size + b.size := ByteArray.size_append

set_option maxRecDepth 100000 in
set_option maxHeartbeats 8000000 in
theorem refoptext_in (x : Fin 12) (o : Opr) (hk : o.kind = 1 + (x.val : Int)) (ok : OprOk o) (h1 : o.key.size ≤ 2000) (h2 : o.til.size ≤ 2000) (h3 : o.value.size ≤ 2000) (w : World) (henv : Env w) :
    Calls Tryz.prog 23 #[opV o] w fun e w' => e = .returned (.string (opText o)) ∧ Below w.heap.size w w' := by
  have hEnd := parts_text o x hk
  have hBox := Blk.new w 34 (opCells o)
  have hB0 : Below w.heap.size w (w.alloc (.cells (opCells o).toArray 34)) := (Below.refl _ w).alloc (Nat.le_refl _) _
  have hW := letW_size ok h1 h2 h3
  have hN := rnp_in x
  rw [← hk] at hN
  have hlet := parts_letters x
  obtain ⟨nm, hnm⟩ : ∃ nm, nmAt x = nm := ⟨_, rfl⟩
  obtain ⟨p, hp⟩ : ∃ p, rnpPt x = p := ⟨_, rfl⟩
  have hN2 : ∀ W, Calls Tryz.prog 21 #[.int .i64 o.kind] W fun e w' => e = .returned (.tuple #[.string nm, .string p]) ∧ Below W.heap.size W w' := fun W => by
    rw [← hnm, ← hp]; exact hN W
  have hps : p.size ≤ 3 := by rw [← hp]; exact parts_size x
  have hns : nm.size ≤ 10 := by rw [← hnm]; exact nm_size x
  rw [hnm, hp] at hEnd
  rw [hp] at hlet
  have HN := Lib.hid hN2
  have HE := Lib.hid hEnd
  have HL := Lib.hid hlet
  have HW := Lib.hid hW
  clear hN hN2 hnm hp hEnd hlet hW
  obtain ⟨kind, n, key, til, value, level, lsn⟩ := o
  simp only [opV, opCells] at *
  clear hk
  have c0 : (w.alloc (.cells [.int .i64 kind, .int .u64 (n : Int), .string key, .string til, .string value, .int .i64 level, .int .u64 (lsn : Int)].toArray 34)).cell? ⟨w.heap.size, 0, none⟩ = some (.int .i64 kind) := hBox.cell 0
  have e1 : (⟨#[32]⟩ : ByteArray).size = 1 := rfl
  have hok := Lib.hid ok
  have nlt : n < 18446744073709551616 := ok.n
  have llt : lsn < 18446744073709551616 := ok.lsn
  have lv0 : -9223372036854775808 ≤ level := ok.level.1
  have lv1 : level ≤ 9223372036854775807 := ok.level.2
  clear ok
  go_enter Tryz.func23, Tryz.ntmps23
  go_wp2_with (go_at_call 21; refine (HN.out _).mono ?_; rintro e w1 ⟨rfl, hb1⟩
               have hX := hBox.below hb1 hBox.lt
               have hb2 := hB0.trans (hb1.mono (by simp)))
  go_loopw [3, 5] (fun s i wr => ∃ (k : Nat) (sk : ByteArray), k ≤ p.size ∧ i = .int .i64 k ∧ s = .string sk ∧ sk.size ≤ 10 + 7000 * k ∧ Hid (soFar nm p (letW ⟨kind, n, key, til, value, level, lsn⟩) k sk) ∧ Below w.heap.size w wr ∧ Hid (Blk wr w.heap.size 34 [.int .i64 kind, .int .u64 (n : Int), .string key, .string til, .string value, .int .i64 level, .int .u64 (lsn : Int)])) (fun _ i _ => p.size - (intOf i).toNat)
  case atStart => exact ⟨0, nm, Nat.zero_le _, rfl, rfl, by omega, Lib.hid (by unfold soFar; simp), hb2, Lib.hid hX⟩
  case round =>
    obtain ⟨k, sk, hk, rfl, rfl, hsk, HS, hb, HX⟩ := hrel
    by_cases hlt : k < p.size
    · obtain ⟨c, hc⟩ : ∃ c : UInt8, p[k] = c := ⟨_, rfl⟩
      have hci : ∀ h, p[k]'h = c := fun _ => hc
      have hg : (bs p)[k]? = some c := by rw [bs_get hlt, hc]
      clear hc
      have hm := HL.out c (List.mem_of_getElem? hg)
      have HS2 := Lib.hid (soFar_next HS.out hg)
      have hwz := HW.out c
      clear hg
      have f1 : wr.cell? ⟨w.heap.size, 1, none⟩ = some (.int .u64 (n : Int)) := HX.out.cell 1
      have f2 : wr.cell? ⟨w.heap.size, 2, none⟩ = some (.string key) := HX.out.cell 2
      have f3 : wr.cell? ⟨w.heap.size, 3, none⟩ = some (.string til) := HX.out.cell 3
      have f4 : wr.cell? ⟨w.heap.size, 4, none⟩ = some (.string value) := HX.out.cell 4
      have f5 : wr.cell? ⟨w.heap.size, 5, none⟩ = some (.int .i64 level) := HX.out.cell 5
      have f6 : wr.cell? ⟨w.heap.size, 6, none⟩ = some (.int .u64 (lsn : Int)) := HX.out.cell 6
      have henv2 := henv.below hb
      obtain ⟨wd, hwd⟩ : ∃ wd, letW ⟨kind, n, key, til, value, level, lsn⟩ c = wd := ⟨_, rfl⟩
      rw [hwd] at HS2 hwz
      have hbs := hb.size
      rcases hm with rfl | rfl | rfl | rfl | rfl | rfl
      · have q : ∀ W, Env W → Calls Tryz.prog 65 #[.int .u64 n] W fun e w' => e = .returned (.string wd) ∧ Below W.heap.size W w' := fun W h => by rw [← hwd]; exact refbig_any n nlt W h
        have HQ := Lib.hid q; clear q hwd
        go_wp2_with (go_at_call 65; refine (HQ.out _ henv2).mono ?_; rintro e w3 ⟨rfl, hb3⟩)
        go_roundw
        case rel => exact ⟨k + 1, sk ++ ⟨#[32]⟩ ++ wd, by omega, by go_num, rfl, by rw [size_app, size_app]; omega, HS2, hb.trans (hb3.mono hbs), Lib.hid (HX.out.below hb3 HX.out.lt)⟩
        case measure => simp [intOf]; omega
      · have q : ∀ W, Env W → Calls Tryz.prog 65 #[.int .u64 lsn] W fun e w' => e = .returned (.string wd) ∧ Below W.heap.size W w' := fun W h => by rw [← hwd]; exact refbig_any lsn llt W h
        have HQ := Lib.hid q; clear q hwd
        go_wp2_with (go_at_call 65; refine (HQ.out _ henv2).mono ?_; rintro e w3 ⟨rfl, hb3⟩)
        go_roundw
        case rel => exact ⟨k + 1, sk ++ ⟨#[32]⟩ ++ wd, by omega, by go_num, rfl, by rw [size_app, size_app]; omega, HS2, hb.trans (hb3.mono hbs), Lib.hid (HX.out.below hb3 HX.out.lt)⟩
        case measure => simp [intOf]; omega
      · have q : ∀ W, Env W → Calls Tryz.prog 55 #[.int .i64 level] W fun e w' => e = .returned (.string wd) ∧ Below W.heap.size W w' := fun W h => by rw [← hwd]; exact itoa_any level lv0 lv1 W h
        have HQ := Lib.hid q; clear q hwd
        go_wp2_with (go_at_call 55; refine (HQ.out _ henv2).mono ?_; rintro e w3 ⟨rfl, hb3⟩)
        go_roundw
        case rel => exact ⟨k + 1, sk ++ ⟨#[32]⟩ ++ wd, by omega, by go_num, rfl, by rw [size_app, size_app]; omega, HS2, hb.trans (hb3.mono hbs), Lib.hid (HX.out.below hb3 HX.out.lt)⟩
        case measure => simp [intOf]; omega
      · have q : ∀ W, Calls Tryz.prog 46 #[.string key] W fun e w' => e = .returned (.string wd) ∧ Below W.heap.size W w' := fun W => by rw [← hwd]; exact refword_any key (by omega) W
        have HQ := Lib.hid q; clear q hwd
        go_wp2_with (go_at_call 46; refine (HQ.out _).mono ?_; rintro e w3 ⟨rfl, hb3⟩)
        go_roundw
        case rel => exact ⟨k + 1, sk ++ ⟨#[32]⟩ ++ wd, by omega, by go_num, rfl, by rw [size_app, size_app]; omega, HS2, hb.trans (hb3.mono hbs), Lib.hid (HX.out.below hb3 HX.out.lt)⟩
        case measure => simp [intOf]; omega
      · have q : ∀ W, Calls Tryz.prog 46 #[.string til] W fun e w' => e = .returned (.string wd) ∧ Below W.heap.size W w' := fun W => by rw [← hwd]; exact refword_any til (by omega) W
        have HQ := Lib.hid q; clear q hwd
        go_wp2_with (go_at_call 46; refine (HQ.out _).mono ?_; rintro e w3 ⟨rfl, hb3⟩)
        go_roundw
        case rel => exact ⟨k + 1, sk ++ ⟨#[32]⟩ ++ wd, by omega, by go_num, rfl, by rw [size_app, size_app]; omega, HS2, hb.trans (hb3.mono hbs), Lib.hid (HX.out.below hb3 HX.out.lt)⟩
        case measure => simp [intOf]; omega
      · have q : ∀ W, Calls Tryz.prog 46 #[.string value] W fun e w' => e = .returned (.string wd) ∧ Below W.heap.size W w' := fun W => by rw [← hwd]; exact refword_any value (by omega) W
        have HQ := Lib.hid q; clear q hwd
        go_wp2_with (go_at_call 46; refine (HQ.out _).mono ?_; rintro e w3 ⟨rfl, hb3⟩)
        go_roundw
        case rel => exact ⟨k + 1, sk ++ ⟨#[32]⟩ ++ wd, by omega, by go_num, rfl, by rw [size_app, size_app]; omega, HS2, hb.trans (hb3.mono hbs), Lib.hid (HX.out.below hb3 HX.out.lt)⟩
        case measure => simp [intOf]; omega
    · obtain rfl : k = p.size := by omega
      go_wp2
      go_ret
      exact ⟨ret_str (by rw [HE.out]; exact soFar_end HS.out), hb⟩
end Go.Proofs.YtgplaeopcejmoaaGreatDoor
