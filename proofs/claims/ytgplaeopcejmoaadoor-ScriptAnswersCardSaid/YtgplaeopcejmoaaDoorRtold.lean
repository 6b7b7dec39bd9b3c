/- The walk of the document's Told; Told at any kind. -/
import Derived.Test.YtgplaeopcejmoaaDoorToldh
import Derived.Test.YtgplaeopcejmoaaDoorRefw
namespace Go.Proofs.YtgplaeopcejmoaaDoor
open Go.RowKit Go.Shelf

/-- an answer's arguments -/
structure AnArg (w : World) (a : An) (A : Option Addr) (ps : List (ByteArray × ByteArray)) : Prop where
  ok : AnOk a
  len : ps.length ≤ 100
  small : ∀ p ∈ ps, p.1.size ≤ 2000 ∧ p.2.size ≤ 2000
  value : a.value.size ≤ 2000
  pairs : PrAt w A ps
theorem AnArg.below {w w' : World} {a : An} {A : Option Addr} {ps : List (ByteArray × ByteArray)} (h : AnArg w a A ps) (hb : Below w.heap.size w w') : AnArg w' a A ps := ⟨h.ok, h.len, h.small, h.value, h.pairs.below hb⟩
theorem toldT_err {k : Int} {a : An} {ps : List (ByteArray × ByteArray)} (h : a.code ≠ 0) : toldT k a ps = errB a := by unfold toldT; rw [if_neg h]
theorem toldT_ok {k : Int} {a : An} {ps : List (ByteArray × ByteArray)} (h : a.code = 0) : toldT k a ps = joinS (okB :: toldW k a ps) := by unfold toldT; rw [if_pos h]

theorem told_any (k : Int) (a : An) (A : Option Addr) (cp : Nat) (ps : List (ByteArray × ByteArray)) (w : World) (henv : Env w) (h : AnArg w a A ps) :
    Calls Tryd.prog 11 #[.int .i64 k, .agg (anCells a (.slice A ps.length cp)).toArray] w fun e w' => e = .returned (.string (toldT k a ps)) ∧ Below w.heap.size w w' := by
  by_cases hc : a.code = 0
  · rw [toldT_ok hc]
    unfold toldW
    by_cases h1 : k = 1
    · subst h1; exact told_begin a _ hc h.ok.n h.ok.pos w henv
    · rw [if_neg h1]
      by_cases h2 : k = 2
      · subst h2
        rw [if_pos rfl]
        cases hy : a.yes with
        | true => exact told_yes a _ hc hy (Nat.le_trans h.value (by decide)) w
        | false => exact told_no a _ hc hy w
      · rw [if_neg h2]
        by_cases h3 : k = 3
        · subst h3; exact told_scan a A cp ps hc h.len h.small w h.pairs
        · rw [if_neg h3]
          by_cases h6 : k = 6
          · subst h6; exact told_6 a _ hc h.ok.level.1 h.ok.level.2 w henv
          · by_cases h11 : k = 11
            · subst h11; exact told_11 a _ hc h.ok.level.1 h.ok.level.2 w henv
            · rw [if_neg (by omega)]
              by_cases h8 : k = 8
              · subst h8; exact told_8 a _ hc h.ok.lsn w henv
              · rw [if_neg h8]
                exact told_plain k (by simpa using h1) (by simpa using h2) (by simpa using h3) (by simpa using h6) (by simpa using h8) (by simpa using h11) a _ hc w
  · rw [toldT_err hc]
    exact told_err k a _ hc h.ok.code.1 h.ok.code.2 h.ok.lsn w henv

theorem refbig_d (u : Nat) (hu64 : u < 18446744073709551616) (w : World) (henv : Env w) :
    Calls Tryd.prog 29 #[.int .u64 u] w fun e w' => e = .returned (.string (dec u)) ∧ Below w.heap.size w w' := by
  go_enter Tryd.func29, Tryd.ntmps29
  go_wp2_with (go_at_call 49; refine (fmtU u hu64 _ henv.tab).mono ?_; rintro e w' ⟨rfl, hb⟩)
  go_ret
  exact ⟨rfl, hb⟩
theorem size_add (a b : ByteArray) : (a ++ b).size = a.size + b.size := ByteArray.size_append

set_option maxRecDepth 100000 in
set_option maxHeartbeats 2000000 in
theorem rtold_err (k : Int) (a : An) (pv : Value) (hc : a.code ≠ 0) (h0 : -9223372036854775808 ≤ a.code) (h1 : a.code ≤ 9223372036854775807) (hl : a.lsn < 18446744073709551616) (w : World) (henv : Env w) :
    Calls Tryd.prog 12 #[.int .i64 k, .agg (anCells a pv).toArray] w fun e w' => e = .returned (.string (errB a)) ∧ Below w.heap.size w w' := by
  have hB := Blk.new w 32 (anCells a pv)
  have hb0 : Below w.heap.size w (w.alloc (.cells (anCells a pv).toArray 32)) := (Below.refl _ _).alloc (Nat.le_refl _) _
  have c0 : (w.alloc (.cells (anCells a pv).toArray 32)).cell? ⟨w.heap.size, 0, none⟩ = some (.int .i64 a.code) := hB.cell 0
  have c3 : (w.alloc (.cells (anCells a pv).toArray 32)).cell? ⟨w.heap.size, 3, none⟩ = some (.int .u64 (a.lsn : Int)) := hB.cell 3
  have hcb : (a.code != 0) = true := by simpa using hc
  obtain ⟨ti, hti⟩ : ∃ ti, ito a.code = ti := ⟨_, rfl⟩
  have hts : ti.size ≤ 21 := hti ▸ ito_size h0 h1
  obtain ⟨tl, htl⟩ : ∃ tl, dec a.lsn = tl := ⟨_, rfl⟩
  have htz : tl.size ≤ 20 := htl ▸ dec_size hl
  have e6 : (⟨#[101, 114, 114, 111, 114, 32]⟩ : ByteArray).size = 6 := rfl
  have e1 : (⟨#[32]⟩ : ByteArray).size = 1 := rfl
  by_cases hz : a.lsn = 0
  · have hzb : ¬ 0 < (a.lsn : Int) := by omega
    go_enter Tryd.func12, Tryd.ntmps12
    go_wp2_with (go_at_call 26; refine (itoa_any a.code h0 h1 _ (henv.below hb0)).mono ?_; rintro e w1 ⟨he, hb1⟩; rw [show (⟨(Lib.itoa a.code).toArray⟩ : ByteArray) = ti from hti] at he; subst he
                 have c3x : w1.cell? ⟨w.heap.size, 3, none⟩ = some (.int .u64 (a.lsn : Int)) := (hb1.cell (p := ⟨w.heap.size, 3, none⟩) (by simp)).trans c3)
    go_ret
    refine ⟨ret_str ?_, hb0.trans (hb1.mono (by simp))⟩
    unfold errB
    rw [hti, if_pos hz, cat, List.append_nil]
  · have hzb : 0 < (a.lsn : Int) := by omega
    go_enter Tryd.func12, Tryd.ntmps12
    go_wp2_with (first
      | (go_at_call 26; refine (itoa_any a.code h0 h1 _ (henv.below hb0)).mono ?_; rintro e w1 ⟨he, hb1⟩; rw [show (⟨(Lib.itoa a.code).toArray⟩ : ByteArray) = ti from hti] at he; subst he
         have c3x : w1.cell? ⟨w.heap.size, 3, none⟩ = some (.int .u64 (a.lsn : Int)) := (hb1.cell (p := ⟨w.heap.size, 3, none⟩) (by simp)).trans c3
         have hb2 := hb0.trans (hb1.mono (by simp)))
      | (go_at_call 29; refine (refbig_d a.lsn hl _ (henv.below hb2)).mono ?_; rintro e w3 ⟨he, hb3⟩; rw [htl] at he; subst he))
    go_ret
    refine ⟨ret_str ?_, hb2.trans (hb3.mono hb2.size)⟩
    unfold errB sp
    rw [hti, htl, if_neg hz, cat, cat, cat]
    simp [bs, txt]

set_option maxRecDepth 100000 in
set_option maxHeartbeats 2000000 in
theorem rtold_8 (a : An) (pv : Value) (hc : a.code = 0) (hl : a.lsn < 18446744073709551616) (w : World) (henv : Env w) :
    Calls Tryd.prog 12 #[.int .i64 8, .agg (anCells a pv).toArray] w fun e w' => e = .returned (.string (joinS [okB, dec a.lsn])) ∧ Below w.heap.size w w' := by
  have hB := Blk.new w 32 (anCells a pv)
  have hb0 : Below w.heap.size w (w.alloc (.cells (anCells a pv).toArray 32)) := (Below.refl _ _).alloc (Nat.le_refl _) _
  have c0 : (w.alloc (.cells (anCells a pv).toArray 32)).cell? ⟨w.heap.size, 0, none⟩ = some (.int .i64 0) := hc ▸ hB.cell 0
  have e2 : (⟨#[111, 107]⟩ : ByteArray).size = 2 := rfl
  have e1 : (⟨#[32]⟩ : ByteArray).size = 1 := rfl
  have c3 : (w.alloc (.cells (anCells a pv).toArray 32)).cell? ⟨w.heap.size, 3, none⟩ = some (.int .u64 (a.lsn : Int)) := hB.cell 3
  have HE := Lib.hid (henv.below hb0)
  obtain ⟨t, ht⟩ : ∃ t, dec a.lsn = t := ⟨_, rfl⟩
  have htz : t.size ≤ 10000 := by rw [← ht]; have := dec_size hl; omega
  have q : ∀ W, Env W → Calls Tryd.prog 29 #[.int .u64 (a.lsn : Int)] W fun e w' => e = .returned (.string t) ∧ Below W.heap.size W w' := fun W hW => by rw [← ht]; exact refbig_d a.lsn hl W hW
  rw [ht]
  have HQ := Lib.hid q
  clear q ht
  go_enter Tryd.func12, Tryd.ntmps12
  go_wp2_with (go_at_call 29; refine (HQ.out _ HE.out).mono ?_; rintro e w1 ⟨rfl, hb1⟩)
  go_ret
  refine ⟨ret_str ?_, hb0.trans (hb1.mono (by simp))⟩
  rw [joinS_cons]
  simp only [cat, bs_txt]
  simp [sp, okB]
  rfl

set_option maxRecDepth 100000 in
set_option maxHeartbeats 2000000 in
theorem rtold_6 (a : An) (pv : Value) (hc : a.code = 0) (h0 : -9223372036854775808 ≤ a.level) (h1 : a.level ≤ 9223372036854775807) (w : World) (henv : Env w) :
    Calls Tryd.prog 12 #[.int .i64 6, .agg (anCells a pv).toArray] w fun e w' => e = .returned (.string (joinS [okB, ito a.level])) ∧ Below w.heap.size w w' := by
  have hB := Blk.new w 32 (anCells a pv)
  have hb0 : Below w.heap.size w (w.alloc (.cells (anCells a pv).toArray 32)) := (Below.refl _ _).alloc (Nat.le_refl _) _
  have c0 : (w.alloc (.cells (anCells a pv).toArray 32)).cell? ⟨w.heap.size, 0, none⟩ = some (.int .i64 0) := hc ▸ hB.cell 0
  have e2 : (⟨#[111, 107]⟩ : ByteArray).size = 2 := rfl
  have e1 : (⟨#[32]⟩ : ByteArray).size = 1 := rfl
  have c2 : (w.alloc (.cells (anCells a pv).toArray 32)).cell? ⟨w.heap.size, 2, none⟩ = some (.int .i64 a.level) := hB.cell 2
  have HE := Lib.hid (henv.below hb0)
  obtain ⟨t, ht⟩ : ∃ t, ito a.level = t := ⟨_, rfl⟩
  have htz : t.size ≤ 10000 := by rw [← ht]; have := ito_size h0 h1; omega
  have q : ∀ W, Env W → Calls Tryd.prog 26 #[.int .i64 a.level] W fun e w' => e = .returned (.string t) ∧ Below W.heap.size W w' := fun W hW => by rw [← ht]; exact itoa_any a.level h0 h1 W hW
  rw [ht]
  have HQ := Lib.hid q
  clear q ht
  go_enter Tryd.func12, Tryd.ntmps12
  go_wp2_with (go_at_call 26; refine (HQ.out _ HE.out).mono ?_; rintro e w1 ⟨rfl, hb1⟩)
  go_ret
  refine ⟨ret_str ?_, hb0.trans (hb1.mono (by simp))⟩
  rw [joinS_cons]
  simp only [cat, bs_txt]
  simp [sp, okB]
  rfl

set_option maxRecDepth 100000 in
set_option maxHeartbeats 2000000 in
theorem rtold_11 (a : An) (pv : Value) (hc : a.code = 0) (h0 : -9223372036854775808 ≤ a.level) (h1 : a.level ≤ 9223372036854775807) (w : World) (henv : Env w) :
    Calls Tryd.prog 12 #[.int .i64 11, .agg (anCells a pv).toArray] w fun e w' => e = .returned (.string (joinS [okB, ito a.level])) ∧ Below w.heap.size w w' := by
  have hB := Blk.new w 32 (anCells a pv)
  have hb0 : Below w.heap.size w (w.alloc (.cells (anCells a pv).toArray 32)) := (Below.refl _ _).alloc (Nat.le_refl _) _
  have c0 : (w.alloc (.cells (anCells a pv).toArray 32)).cell? ⟨w.heap.size, 0, none⟩ = some (.int .i64 0) := hc ▸ hB.cell 0
  have e2 : (⟨#[111, 107]⟩ : ByteArray).size = 2 := rfl
  have e1 : (⟨#[32]⟩ : ByteArray).size = 1 := rfl
  have c2 : (w.alloc (.cells (anCells a pv).toArray 32)).cell? ⟨w.heap.size, 2, none⟩ = some (.int .i64 a.level) := hB.cell 2
  have HE := Lib.hid (henv.below hb0)
  obtain ⟨t, ht⟩ : ∃ t, ito a.level = t := ⟨_, rfl⟩
  have htz : t.size ≤ 10000 := by rw [← ht]; have := ito_size h0 h1; omega
  have q : ∀ W, Env W → Calls Tryd.prog 26 #[.int .i64 a.level] W fun e w' => e = .returned (.string t) ∧ Below W.heap.size W w' := fun W hW => by rw [← ht]; exact itoa_any a.level h0 h1 W hW
  rw [ht]
  have HQ := Lib.hid q
  clear q ht
  go_enter Tryd.func12, Tryd.ntmps12
  go_wp2_with (go_at_call 26; refine (HQ.out _ HE.out).mono ?_; rintro e w1 ⟨rfl, hb1⟩)
  go_ret
  refine ⟨ret_str ?_, hb0.trans (hb1.mono (by simp))⟩
  rw [joinS_cons]
  simp only [cat, bs_txt]
  simp [sp, okB]
  rfl

set_option maxRecDepth 100000 in
set_option maxHeartbeats 2000000 in
theorem rtold_yes (a : An) (pv : Value) (hc : a.code = 0) (hy : a.yes = true) (hv : a.value.size ≤ 2000) (w : World) (henv : Env w) :
    Calls Tryd.prog 12 #[.int .i64 2, .agg (anCells a pv).toArray] w fun e w' => e = .returned (.string (joinS [okB, yesB, wtx a.value])) ∧ Below w.heap.size w w' := by
  have hB := Blk.new w 32 (anCells a pv)
  have hb0 : Below w.heap.size w (w.alloc (.cells (anCells a pv).toArray 32)) := (Below.refl _ _).alloc (Nat.le_refl _) _
  have c0 : (w.alloc (.cells (anCells a pv).toArray 32)).cell? ⟨w.heap.size, 0, none⟩ = some (.int .i64 0) := hc ▸ hB.cell 0
  have e2 : (⟨#[111, 107]⟩ : ByteArray).size = 2 := rfl
  have e1 : (⟨#[32]⟩ : ByteArray).size = 1 := rfl
  have c6 : (w.alloc (.cells (anCells a pv).toArray 32)).cell? ⟨w.heap.size, 6, none⟩ = some (.string a.value) := hB.cell 6
  have c7 : (w.alloc (.cells (anCells a pv).toArray 32)).cell? ⟨w.heap.size, 7, none⟩ = some (.bool true) := hy ▸ hB.cell 7
  have e5 : (⟨#[32, 121, 101, 115, 32]⟩ : ByteArray).size = 5 := rfl
  have HE := Lib.hid (henv.below hb0)
  obtain ⟨t, ht⟩ : ∃ t, wtx a.value = t := ⟨_, rfl⟩
  have htz : t.size ≤ 10000 := by rw [← ht]; have := wtx_size6 hv; omega
  have q : ∀ W, Env W → Calls Tryd.prog 8 #[.string a.value] W fun e w' => e = .returned (.string t) ∧ Below W.heap.size W w' := fun W hW => by rw [← ht]; exact refword_any a.value (by omega) W
  rw [ht]
  have HQ := Lib.hid q
  clear q ht
  go_enter Tryd.func12, Tryd.ntmps12
  go_wp2_with (go_at_call 8; refine (HQ.out _ HE.out).mono ?_; rintro e w1 ⟨rfl, hb1⟩)
  go_ret
  refine ⟨ret_str ?_, hb0.trans (hb1.mono (by simp))⟩
  rw [joinS_cons]
  simp only [cat, bs_txt]
  simp [sp, okB, yesB]
  rfl

set_option maxRecDepth 100000 in
theorem rtold_no (a : An) (pv : Value) (hc : a.code = 0) (hy : a.yes = false) (w : World) :
    Calls Tryd.prog 12 #[.int .i64 2, .agg (anCells a pv).toArray] w fun e w' => e = .returned (.string (joinS [okB, noB])) ∧ Below w.heap.size w w' := by
  have hB := Blk.new w 32 (anCells a pv)
  have hb0 : Below w.heap.size w (w.alloc (.cells (anCells a pv).toArray 32)) := (Below.refl _ _).alloc (Nat.le_refl _) _
  have c0 : (w.alloc (.cells (anCells a pv).toArray 32)).cell? ⟨w.heap.size, 0, none⟩ = some (.int .i64 0) := hc ▸ hB.cell 0
  have e2 : (⟨#[111, 107]⟩ : ByteArray).size = 2 := rfl
  have e1 : (⟨#[32]⟩ : ByteArray).size = 1 := rfl
  have c7 : (w.alloc (.cells (anCells a pv).toArray 32)).cell? ⟨w.heap.size, 7, none⟩ = some (.bool false) := hy ▸ hB.cell 7
  have e3 : (⟨#[32, 110, 111]⟩ : ByteArray).size = 3 := rfl
  go_enter Tryd.func12, Tryd.ntmps12
  go_wp2
  go_ret
  exact ⟨ret_str (by decide), hb0⟩

set_option maxRecDepth 100000 in
theorem rtold_plain (k : Int) (h1 : (k == 1) = false) (h2 : (k == 2) = false) (h3 : (k == 3) = false) (h6 : (k == 6) = false) (h8 : (k == 8) = false) (h11 : (k == 11) = false) (a : An) (pv : Value) (hc : a.code = 0) (w : World) :
    Calls Tryd.prog 12 #[.int .i64 k, .agg (anCells a pv).toArray] w fun e w' => e = .returned (.string (joinS [okB])) ∧ Below w.heap.size w w' := by
  have hB := Blk.new w 32 (anCells a pv)
  have hb0 : Below w.heap.size w (w.alloc (.cells (anCells a pv).toArray 32)) := (Below.refl _ _).alloc (Nat.le_refl _) _
  have c0 : (w.alloc (.cells (anCells a pv).toArray 32)).cell? ⟨w.heap.size, 0, none⟩ = some (.int .i64 0) := hc ▸ hB.cell 0
  have e2 : (⟨#[111, 107]⟩ : ByteArray).size = 2 := rfl
  have e1 : (⟨#[32]⟩ : ByteArray).size = 1 := rfl
  go_enter Tryd.func12, Tryd.ntmps12
  go_wp2
  go_ret
  exact ⟨ret_str (by decide), hb0⟩

set_option maxRecDepth 100000 in
set_option maxHeartbeats 4000000 in
theorem rtold_begin (a : An) (pv : Value) (hc : a.code = 0) (hn : a.n < 18446744073709551616) (hp : a.pos < 18446744073709551616) (w : World) (henv : Env w) :
    Calls Tryd.prog 12 #[.int .i64 1, .agg (anCells a pv).toArray] w fun e w' => e = .returned (.string (joinS [okB, dec a.n, dec a.pos])) ∧ Below w.heap.size w w' := by
  have hB := Blk.new w 32 (anCells a pv)
  have hb0 : Below w.heap.size w (w.alloc (.cells (anCells a pv).toArray 32)) := (Below.refl _ _).alloc (Nat.le_refl _) _
  have c0 : (w.alloc (.cells (anCells a pv).toArray 32)).cell? ⟨w.heap.size, 0, none⟩ = some (.int .i64 0) := hc ▸ hB.cell 0
  have e2 : (⟨#[111, 107]⟩ : ByteArray).size = 2 := rfl
  have e1 : (⟨#[32]⟩ : ByteArray).size = 1 := rfl
  have c1 : (w.alloc (.cells (anCells a pv).toArray 32)).cell? ⟨w.heap.size, 1, none⟩ = some (.int .u64 (a.n : Int)) := hB.cell 1
  have c4 : (w.alloc (.cells (anCells a pv).toArray 32)).cell? ⟨w.heap.size, 4, none⟩ = some (.int .u64 (a.pos : Int)) := hB.cell 4
  obtain ⟨t, ht⟩ : ∃ t, dec a.n = t := ⟨_, rfl⟩
  obtain ⟨u, hu⟩ : ∃ u, dec a.pos = u := ⟨_, rfl⟩
  have htz : t.size ≤ 25 := by rw [← ht]; have := dec_size hn; omega
  have huz : u.size ≤ 25 := by rw [← hu]; have := dec_size hp; omega
  have HE := Lib.hid (henv.below hb0)
  have q : ∀ W, Env W → Calls Tryd.prog 29 #[.int .u64 (a.n : Int)] W fun e w' => e = .returned (.string t) ∧ Below W.heap.size W w' := fun W hW => by rw [← ht]; exact refbig_d a.n hn W hW
  have q2 : ∀ W, Env W → Calls Tryd.prog 29 #[.int .u64 (a.pos : Int)] W fun e w' => e = .returned (.string u) ∧ Below W.heap.size W w' := fun W hW => by rw [← hu]; exact refbig_d a.pos hp W hW
  rw [ht, hu]
  have s1 := size_add ⟨#[111, 107]⟩ ⟨#[32]⟩
  have s2 := size_add (⟨#[111, 107]⟩ ++ ⟨#[32]⟩) t
  have s3 := size_add (⟨#[111, 107]⟩ ++ ⟨#[32]⟩ ++ t) ⟨#[32]⟩
  have s4 := size_add (⟨#[111, 107]⟩ ++ ⟨#[32]⟩ ++ t ++ ⟨#[32]⟩) u
  have n1 : ¬ 9223372036854775807 < 3 + t.size := by omega
  have n2 : ¬ 9223372036854775807 < 3 + t.size + 1 := by omega
  have n3 : ¬ 9223372036854775807 < 3 + t.size + 1 + u.size := by omega
  have HQ := Lib.hid q; have HQ2 := Lib.hid q2; have HBW := Lib.hid hB
  clear q q2 ht hu hB
  go_enter Tryd.func12, Tryd.ntmps12
  go_wp2_with fail
  go_region_held3 (fun W => W.cell? ⟨w.heap.size, 1, none⟩ = some (.int .u64 (a.n : Int)) ∧ W.cell? ⟨w.heap.size, 4, none⟩ = some (.int .u64 (a.pos : Int))) (go_keep) (first
    | (go_at_call 29; (with_reducible refine (HQ.out _ ?_).mono ?_); (first | exact HE2.out | exact HE.out.drew); rintro e w1 ⟨rfl, hb1⟩; (try replace hb1 := below_undrew hb1); have HB1 : Below w.heap.size w w1 := (by first | exact HB2.trans (hb1.mono HB2.size) | exact hb0.trans (hb1.mono hb0.size)); have HX1 : Hid (Blk w1 w.heap.size 32 (anCells a pv)) := (by first | exact Lib.hid (HX2.out.below hb1 HX2.out.lt) | exact Lib.hid (HBW.out.below hb1 HBW.out.lt)); have HE1 : Hid (Env w1) := (by first | exact Lib.hid (HE2.out.below hb1) | exact Lib.hid (HE.out.below hb1)); have d1 : w1.cell? ⟨w.heap.size, 1, none⟩ = some (.int .u64 (a.n : Int)) := HX1.out.cell 1; have d4 : w1.cell? ⟨w.heap.size, 4, none⟩ = some (.int .u64 (a.pos : Int)) := HX1.out.cell 4)
    | (go_at_call 29; (with_reducible refine (HQ2.out _ ?_).mono ?_); (first | exact HE1.out | exact HE.out.drew); rintro e w2 ⟨rfl, hb2⟩; (try replace hb2 := below_undrew hb2); have HB2 : Below w.heap.size w w2 := (by first | exact HB1.trans (hb2.mono HB1.size) | exact hb0.trans (hb2.mono hb0.size)); have HX2 : Hid (Blk w2 w.heap.size 32 (anCells a pv)) := (by first | exact Lib.hid (HX1.out.below hb2 HX1.out.lt) | exact Lib.hid (HBW.out.below hb2 HBW.out.lt)); have HE2 : Hid (Env w2) := (by first | exact Lib.hid (HE1.out.below hb2) | exact Lib.hid (HE.out.below hb2)); have d1 : w2.cell? ⟨w.heap.size, 1, none⟩ = some (.int .u64 (a.n : Int)) := HX2.out.cell 1; have d4 : w2.cell? ⟨w.heap.size, 4, none⟩ = some (.int .u64 (a.pos : Int)) := HX2.out.cell 4))
  all_goals
    go_wp2_with fail
    go_ret
    first
    | refine ⟨ret_str ?_, HB2⟩
    | refine ⟨ret_str ?_, HB1⟩
    rw [joinS_cons]
    simp only [cat, bs_txt]
    simp [sp, okB]
    rfl

theorem okpairs_next {sk t u : ByteArray} {l : List ByteArray} (h : bs sk = bs okB ++ (l.map sp).flatten) : bs (sk ++ ⟨#[32]⟩ ++ t ++ ⟨#[32]⟩ ++ u) = bs okB ++ ((l ++ [t, u]).map sp).flatten := by
  rw [List.map_append, List.flatten_append, ← List.append_assoc, ← h]
  simp [bs, sp, ByteArray.data_append]
set_option maxRecDepth 100000 in
set_option maxHeartbeats 4000000 in
theorem rtold_scan (a : An) (A : Option Addr) (cp : Nat) (ps : List (ByteArray × ByteArray)) (hc : a.code = 0) (hl : ps.length ≤ 100) (hz : ∀ p ∈ ps, p.1.size ≤ 2000 ∧ p.2.size ≤ 2000) (w : World) (hP : PrAt w A ps) :
    Calls Tryd.prog 12 #[.int .i64 3, .agg (anCells a (.slice A ps.length cp)).toArray] w fun e w' => e = .returned (.string (joinS (okB :: ps.flatMap pairW))) ∧ Below w.heap.size w w' := by
  obtain ⟨pv, hpv⟩ : ∃ pv, Value.slice A ps.length cp = pv := ⟨_, rfl⟩
  rw [hpv]
  have hB := Blk.new w 32 (anCells a pv)
  have hb0 : Below w.heap.size w (w.alloc (.cells (anCells a pv).toArray 32)) := (Below.refl _ _).alloc (Nat.le_refl _) _
  have c0 : (w.alloc (.cells (anCells a pv).toArray 32)).cell? ⟨w.heap.size, 0, none⟩ = some (.int .i64 0) := hc ▸ hB.cell 0
  have e2 : (⟨#[111, 107]⟩ : ByteArray).size = 2 := rfl
  have e1 : (⟨#[32]⟩ : ByteArray).size = 1 := rfl
  have HX0 : Hid (Blk (w.alloc (.cells (anCells a pv).toArray 32)) w.heap.size 32 (anCells a pv)) := Lib.hid hB
  have HZ := Lib.hid hz
  have HP := Lib.hid hP
  have HV := Lib.hid hpv
  clear hz hP hB hpv
  go_enter Tryd.func12, Tryd.ntmps12
  go_wp2_with fail
  go_loopw [6, 7] (fun s i wr => ∃ (j : Nat) (sk : ByteArray), j ≤ ps.length ∧ i = .int .i64 j ∧ s = .string sk ∧ sk.size ≤ 2 + 12010 * j ∧ Hid (bs sk = bs okB ++ (((ps.take j).flatMap pairW).map sp).flatten) ∧ Below w.heap.size w wr ∧ Hid (Blk wr w.heap.size 32 (anCells a pv))) (fun _ i _ => ps.length - (intOf i).toNat)
  case atStart => exact ⟨0, ⟨#[111, 107]⟩, Nat.zero_le _, rfl, rfl, by omega, Lib.hid (by simp [okB]), hb0, HX0⟩
  case round =>
    obtain ⟨j, sk, hj, rfl, rfl, hsk, HS, hb, HX⟩ := hrel
    clear c0 HX0
    have hbs := hb.size
    have f8 : wr.cell? ⟨w.heap.size, 8, none⟩ = some (.slice A ps.length cp) := by rw [HV.out]; exact HX.out.cell 8
    by_cases hlt : j < ps.length
    · have hne : ps ≠ [] := fun e => by rw [e] at hlt; simp at hlt
      obtain ⟨⟨x, y⟩, hp⟩ : ∃ p, ps[j]? = some p := ⟨_, List.getElem?_eq_getElem hlt⟩
      obtain ⟨g, o, rfl, hg, hcc⟩ := HP.out hne
      have y1 : wr.cell? ⟨g, o + j * 2, none⟩ = some (.string x) := (hb.cell (p := ⟨g, o + j * 2, none⟩) hg).trans (hcc j _ hp).1
      have y2 : wr.cell? ⟨g, o + j * 2 + 1, none⟩ = some (.string y) := (hb.cell (p := ⟨g, o + j * 2 + 1, none⟩) hg).trans (hcc j _ hp).2
      have hzz := HZ.out _ (List.mem_of_getElem? hp)
      have hnx := pairs_next hp
      obtain ⟨t, ht⟩ : ∃ t, wtx x = t := ⟨_, rfl⟩
      obtain ⟨u, hu⟩ : ∃ u, wtx y = u := ⟨_, rfl⟩
      simp only at hzz hnx
      have htz : t.size ≤ 6002 := by rw [← ht]; exact wtx_size6 hzz.1
      have huz : u.size ≤ 6002 := by rw [← hu]; exact wtx_size6 hzz.2
      rw [ht, hu] at hnx
      have hnew := okpairs_next (t := t) (u := u) HS.out
      rw [← hnx] at hnew
      have q : ∀ W, Calls Tryd.prog 8 #[.string x] W fun e w' => e = .returned (.string t) ∧ Below W.heap.size W w' := fun W => by rw [← ht]; exact refword_any x (by omega) W
      have q2 : ∀ W, Calls Tryd.prog 8 #[.string y] W fun e w' => e = .returned (.string u) ∧ Below W.heap.size W w' := fun W => by rw [← hu]; exact refword_any y (by omega) W
      have HQ := Lib.hid q; have HQ2 := Lib.hid q2; have HN := Lib.hid hnew
      clear q q2 hnx hnew ht hu hcc hne hp hzz
      have hsz : (sk ++ ⟨#[32]⟩ ++ t ++ ⟨#[32]⟩ ++ u).size ≤ 2 + 12010 * (j + 1) := by
        rw [size_add, size_add, size_add, size_add]; omega
      have s1 := size_add sk ⟨#[32]⟩
      have s2 := size_add (sk ++ ⟨#[32]⟩) t
      have s3 := size_add (sk ++ ⟨#[32]⟩ ++ t) ⟨#[32]⟩
      have s4 := size_add (sk ++ ⟨#[32]⟩ ++ t ++ ⟨#[32]⟩) u
      have n0 : ¬ 9223372036854775807 < sk.size + 1 := by omega
      have n1 : ¬ 9223372036854775807 < sk.size + 1 + t.size := by omega
      have n2 : ¬ 9223372036854775807 < sk.size + 1 + t.size + 1 := by omega
      have n3 : ¬ 9223372036854775807 < sk.size + 1 + t.size + 1 + u.size := by omega
      have HSZ := Lib.hid hsz
      clear hsz
      have p0 : (0 : Int) ≤ (j : Int) := by omega
      have p1 : (j : Int) < (ps.length : Int) := by omega
      go_wp2_with fail
      go_region_held3 (fun W => W.cell? ⟨w.heap.size, 8, none⟩ = some (.slice (some ⟨g, o, none⟩) ps.length cp) ∧ W.cell? ⟨g, o + j * 2, none⟩ = some (.string x) ∧ W.cell? ⟨g, o + j * 2 + 1, none⟩ = some (.string y)) (go_keep) (first
        | (go_at_call 8; (with_reducible refine (HQ.out _).mono ?_); rintro e w1 ⟨rfl, hb1⟩; (try replace hb1 := below_undrew hb1); have HB1 : Below w.heap.size w w1 := (by first | exact HB2.trans (hb1.mono HB2.size) | exact hb.trans (hb1.mono hb.size)); have HX1 : Hid (Blk w1 w.heap.size 32 (anCells a pv)) := (by first | exact Lib.hid (HX2.out.below hb1 HX2.out.lt) | exact Lib.hid (HX.out.below hb1 HX.out.lt)); have d8 : w1.cell? ⟨w.heap.size, 8, none⟩ = some (.slice (some ⟨g, o, none⟩) ps.length cp) := (by rw [HV.out]; exact HX1.out.cell 8); have d1 : w1.cell? ⟨g, o + j * 2, none⟩ = some (.string x) := (by first | exact (hb1.cell (p := ⟨g, o + j * 2, none⟩) (Nat.lt_of_lt_of_le hg HB2.size)).trans e1x | exact (hb1.cell (p := ⟨g, o + j * 2, none⟩) (Nat.lt_of_lt_of_le hg hbs)).trans y1); have d2 : w1.cell? ⟨g, o + j * 2 + 1, none⟩ = some (.string y) := (by first | exact (hb1.cell (p := ⟨g, o + j * 2 + 1, none⟩) (Nat.lt_of_lt_of_le hg HB2.size)).trans e2x | exact (hb1.cell (p := ⟨g, o + j * 2 + 1, none⟩) (Nat.lt_of_lt_of_le hg hbs)).trans y2))
        | (go_at_call 8; (with_reducible refine (HQ2.out _).mono ?_); rintro e w2 ⟨rfl, hb2⟩; (try replace hb2 := below_undrew hb2); have HB2 : Below w.heap.size w w2 := (by first | exact HB1.trans (hb2.mono HB1.size) | exact hb.trans (hb2.mono hb.size)); have HX2 : Hid (Blk w2 w.heap.size 32 (anCells a pv)) := (by first | exact Lib.hid (HX1.out.below hb2 HX1.out.lt) | exact Lib.hid (HX.out.below hb2 HX.out.lt)); have d8 : w2.cell? ⟨w.heap.size, 8, none⟩ = some (.slice (some ⟨g, o, none⟩) ps.length cp) := (by rw [HV.out]; exact HX2.out.cell 8); have e1x : w2.cell? ⟨g, o + j * 2, none⟩ = some (.string x) := (by first | exact (hb2.cell (p := ⟨g, o + j * 2, none⟩) (Nat.lt_of_lt_of_le hg HB1.size)).trans d1 | exact (hb2.cell (p := ⟨g, o + j * 2, none⟩) (Nat.lt_of_lt_of_le hg hbs)).trans y1); have e2x : w2.cell? ⟨g, o + j * 2 + 1, none⟩ = some (.string y) := (by first | exact (hb2.cell (p := ⟨g, o + j * 2 + 1, none⟩) (Nat.lt_of_lt_of_le hg HB1.size)).trans d2 | exact (hb2.cell (p := ⟨g, o + j * 2 + 1, none⟩) (Nat.lt_of_lt_of_le hg hbs)).trans y2)))
      all_goals
        clear s1 s2 s3 s4 n0 n1 n2 n3
        go_wp2_with fail
        go_roundw
        case rel => first
          | exact ⟨j + 1, sk ++ ⟨#[32]⟩ ++ t ++ ⟨#[32]⟩ ++ u, by omega, by go_num, rfl, HSZ.out, HN, HB2, HX2⟩
          | exact ⟨j + 1, sk ++ ⟨#[32]⟩ ++ t ++ ⟨#[32]⟩ ++ u, by omega, by go_num, rfl, HSZ.out, HN, HB1, HX1⟩
        case measure => simp [intOf]; omega
    · obtain rfl : j = ps.length := by omega
      go_wp2_with fail
      go_ret
      refine ⟨ret_str ?_, hb⟩
      have h := HS.out
      rw [List.take_length] at h
      rw [joinS_cons, ← h, txt_bs]
theorem rtold_any (k : Int) (a : An) (A : Option Addr) (cp : Nat) (ps : List (ByteArray × ByteArray)) (w : World) (henv : Env w) (h : AnArg w a A ps) :
    Calls Tryd.prog 12 #[.int .i64 k, .agg (anCells a (.slice A ps.length cp)).toArray] w fun e w' => e = .returned (.string (toldT k a ps)) ∧ Below w.heap.size w w' := by
  by_cases hc : a.code = 0
  · rw [toldT_ok hc]
    unfold toldW
    by_cases h1 : k = 1
    · subst h1; exact rtold_begin a _ hc h.ok.n h.ok.pos w henv
    · rw [if_neg h1]
      by_cases h2 : k = 2
      · subst h2
        rw [if_pos rfl]
        cases hy : a.yes with
        | true => exact rtold_yes a _ hc hy h.value w henv
        | false => exact rtold_no a _ hc hy w
      · rw [if_neg h2]
        by_cases h3 : k = 3
        · subst h3; exact rtold_scan a A cp ps hc h.len h.small w h.pairs
        · rw [if_neg h3]
          by_cases h6 : k = 6
          · subst h6; exact rtold_6 a _ hc h.ok.level.1 h.ok.level.2 w henv
          · by_cases h11 : k = 11
            · subst h11; exact rtold_11 a _ hc h.ok.level.1 h.ok.level.2 w henv
            · rw [if_neg (by omega)]
              by_cases h8 : k = 8
              · subst h8; exact rtold_8 a _ hc h.ok.lsn w henv
              · rw [if_neg h8]
                exact rtold_plain k (by simpa using h1) (by simpa using h2) (by simpa using h3) (by simpa using h6) (by simpa using h8) (by simpa using h11) a _ hc w
  · rw [toldT_err hc]
    exact rtold_err k a _ hc h.ok.code.1 h.ok.code.2 h.ok.lsn w henv
end Go.Proofs.YtgplaeopcejmoaaDoor
