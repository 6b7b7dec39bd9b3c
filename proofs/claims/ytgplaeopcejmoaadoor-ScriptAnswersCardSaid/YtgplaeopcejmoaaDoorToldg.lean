/- The walk of Told, the ways without a drawn region. -/
import Derived.Test.YtgplaeopcejmoaaDoorTold
namespace Go.Proofs.YtgplaeopcejmoaaDoor
open Go.RowKit Go.Shelf

/-- an answer's words behind 'ok', to an operation of kind k -/
def toldW (k : Int) (a : An) (ps : List (ByteArray × ByteArray)) : List ByteArray :=
  if k = 1 then [dec a.n, dec a.pos] else if k = 2 then (if a.yes then [yesB, wtx a.value] else [noB]) else if k = 3 then ps.flatMap (fun p => [wtx p.1, wtx p.2])
  else if k = 6 ∨ k = 11 then [ito a.level] else if k = 8 then [dec a.lsn] else []
def toldT (k : Int) (a : An) (ps : List (ByteArray × ByteArray)) : ByteArray := if a.code = 0 then joinS (okB :: toldW k a ps) else errB a
/-- the numbers that an answer may hold -/
structure AnOk (a : An) : Prop where
  code : -9223372036854775808 ≤ a.code ∧ a.code ≤ 9223372036854775807
  n : a.n < 18446744073709551616
  level : -9223372036854775808 ≤ a.level ∧ a.level ≤ 9223372036854775807
  lsn : a.lsn < 18446744073709551616
  pos : a.pos < 18446744073709551616
theorem Env.drew {w : World} (h : Env w) : Env w.drew := ⟨h.tab, h.mxl, h.syn, h.rng⟩
theorem tot_cons (x : ByteArray) (l : List ByteArray) : tot (x :: l) = x.size + tot l := by
  have := tot_app [x] l
  rw [tot_one] at this
  exact this

set_option maxRecDepth 100000 in
set_option maxHeartbeats 2000000 in
theorem told_8 (a : An) (pv : Value) (hc : a.code = 0) (hl : a.lsn < 18446744073709551616) (w : World) (henv : Env w) :
    Calls Tryd.prog 11 #[.int .i64 8, .agg (anCells a pv).toArray] w fun e w' => e = .returned (.string (joinS [okB, dec a.lsn])) ∧ Below w.heap.size w w' := by
  have hB := Blk.new w 32 (anCells a pv)
  have hb0 : Below w.heap.size w (w.alloc (.cells (anCells a pv).toArray 32)) := (Below.refl _ _).alloc (Nat.le_refl _) _
  have c0 : (w.alloc (.cells (anCells a pv).toArray 32)).cell? ⟨w.heap.size, 0, none⟩ = some (.int .i64 0) := hc ▸ hB.cell 0
  have hBW : Blk ((w.alloc (.cells (anCells a pv).toArray 32)).alloc (.cells #[.string ⟨#[111, 107]⟩] 9)) w.heap.size 32 (anCells a pv) := hB.alloc _
  have hoW : Blk ((w.alloc (.cells (anCells a pv).toArray 32)).alloc (.cells #[.string ⟨#[111, 107]⟩] 9)) (w.heap.size + 1) 9 [.string okB] := by
    have := Blk.new (w.alloc (.cells (anCells a pv).toArray 32)) 9 [.string okB]
    rw [World.size_alloc] at this
    exact this
  have hO : OwnS ((w.alloc (.cells (anCells a pv).toArray 32)).alloc (.cells #[.string ⟨#[111, 107]⟩] 9)) (w.heap.size + 1) (.slice (some ⟨w.heap.size + 1, 0, none⟩) 1 1) [okB] := ownS_row hoW (Nat.le_refl _)
  have hbW : Below w.heap.size w ((w.alloc (.cells (anCells a pv).toArray 32)).alloc (.cells #[.string ⟨#[111, 107]⟩] 9)) := hb0.alloc hb0.size _
  have c3 : ((w.alloc (.cells (anCells a pv).toArray 32)).alloc (.cells #[.string ⟨#[111, 107]⟩] 9)).cell? ⟨w.heap.size, 3, none⟩ = some (.int .u64 (a.lsn : Int)) := hBW.cell 3
  obtain ⟨t, ht⟩ : ∃ t, dec a.lsn = t := ⟨_, rfl⟩
  have htz : t.size ≤ 25 := by rw [← ht]; have := dec_size hl; omega
  have hT3 : tot [okB, t] ≤ 4000000 := by
    have h1 := tot_cons okB [t]
    rw [tot_one] at h1
    have h2 : okB.size = 2 := rfl
    omega
  have HE := Lib.hid (henv.below hbW)
  have q : ∀ W, Env W → Calls Tryd.prog 27 #[.int .u64 (a.lsn : Int)] W fun e w' => e = .returned (.string t) ∧ Below W.heap.size W w' := fun W hW => by rw [← ht]; exact natural_any a.lsn hl W hW
  rw [ht]
  have HQ := Lib.hid q
  clear q ht
  go_enter Tryd.func11, Tryd.ntmps11
  go_wp2_with (first
    | (go_at_call 27; refine (HQ.out _ HE.out).mono ?_; rintro e w1 ⟨rfl, hb1⟩
       have hO1 := hO.below hb1
       have hB1 := hbW.trans (hb1.mono hbW.size)
       have hz1 := hb1.size)
    | (refine wpList_append_s rfl _ _ rfl (w.heap.size + 1) (.slice (some ⟨w.heap.size + 1, 0, none⟩) 1 1) [okB] ⟨w1.heap.size, 0, none⟩ 1 1 [t] rfl rfl (hO1.alloc _) (by simp) (by simp at hz1 ⊢; omega) rfl (by omega) (news_s w1 [t]) ?_
       intro v' w2 ho2 hg2
       obtain ⟨g1, cap1, rfl, _, _⟩ := ho2.form (by simp)
       have hB2 : Below w.heap.size w w2 := (hB1.alloc hB1.size _).grown hg2 (by have := hB1.size; simp; omega) (fun i e => by have := own_size hO1 i e; omega))
    | (go_at_call 28; refine (join_own ho2 (by simp) (Nat.le_trans hT3 (by decide))).mono ?_; rintro e w3 ⟨rfl, hb3⟩))
  go_ret
  exact ⟨rfl, hB2.trans (hb3.mono hB2.size)⟩

set_option maxRecDepth 100000 in
set_option maxHeartbeats 2000000 in
theorem told_6 (a : An) (pv : Value) (hc : a.code = 0) (h0 : -9223372036854775808 ≤ a.level) (h1 : a.level ≤ 9223372036854775807) (w : World) (henv : Env w) :
    Calls Tryd.prog 11 #[.int .i64 6, .agg (anCells a pv).toArray] w fun e w' => e = .returned (.string (joinS [okB, ito a.level])) ∧ Below w.heap.size w w' := by
  have hB := Blk.new w 32 (anCells a pv)
  have hb0 : Below w.heap.size w (w.alloc (.cells (anCells a pv).toArray 32)) := (Below.refl _ _).alloc (Nat.le_refl _) _
  have c0 : (w.alloc (.cells (anCells a pv).toArray 32)).cell? ⟨w.heap.size, 0, none⟩ = some (.int .i64 0) := hc ▸ hB.cell 0
  have hBW : Blk ((w.alloc (.cells (anCells a pv).toArray 32)).alloc (.cells #[.string ⟨#[111, 107]⟩] 9)) w.heap.size 32 (anCells a pv) := hB.alloc _
  have hoW : Blk ((w.alloc (.cells (anCells a pv).toArray 32)).alloc (.cells #[.string ⟨#[111, 107]⟩] 9)) (w.heap.size + 1) 9 [.string okB] := by
    have := Blk.new (w.alloc (.cells (anCells a pv).toArray 32)) 9 [.string okB]
    rw [World.size_alloc] at this
    exact this
  have hO : OwnS ((w.alloc (.cells (anCells a pv).toArray 32)).alloc (.cells #[.string ⟨#[111, 107]⟩] 9)) (w.heap.size + 1) (.slice (some ⟨w.heap.size + 1, 0, none⟩) 1 1) [okB] := ownS_row hoW (Nat.le_refl _)
  have hbW : Below w.heap.size w ((w.alloc (.cells (anCells a pv).toArray 32)).alloc (.cells #[.string ⟨#[111, 107]⟩] 9)) := hb0.alloc hb0.size _
  have c2 : ((w.alloc (.cells (anCells a pv).toArray 32)).alloc (.cells #[.string ⟨#[111, 107]⟩] 9)).cell? ⟨w.heap.size, 2, none⟩ = some (.int .i64 a.level) := hBW.cell 2
  obtain ⟨t, ht⟩ : ∃ t, ito a.level = t := ⟨_, rfl⟩
  have htz : t.size ≤ 25 := by rw [← ht]; have := ito_size h0 h1; omega
  have hT3 : tot [okB, t] ≤ 4000000 := by
    have h1 := tot_cons okB [t]
    rw [tot_one] at h1
    have h2 : okB.size = 2 := rfl
    omega
  have HE := Lib.hid (henv.below hbW)
  have q : ∀ W, Env W → Calls Tryd.prog 26 #[.int .i64 a.level] W fun e w' => e = .returned (.string t) ∧ Below W.heap.size W w' := fun W hW => by rw [← ht]; exact itoa_any a.level h0 h1 W hW
  rw [ht]
  have HQ := Lib.hid q
  clear q ht
  go_enter Tryd.func11, Tryd.ntmps11
  go_wp2_with (first
    | (go_at_call 26; refine (HQ.out _ HE.out).mono ?_; rintro e w1 ⟨rfl, hb1⟩
       have hO1 := hO.below hb1
       have hB1 := hbW.trans (hb1.mono hbW.size)
       have hz1 := hb1.size)
    | (refine wpList_append_s rfl _ _ rfl (w.heap.size + 1) (.slice (some ⟨w.heap.size + 1, 0, none⟩) 1 1) [okB] ⟨w1.heap.size, 0, none⟩ 1 1 [t] rfl rfl (hO1.alloc _) (by simp) (by simp at hz1 ⊢; omega) rfl (by omega) (news_s w1 [t]) ?_
       intro v' w2 ho2 hg2
       obtain ⟨g1, cap1, rfl, _, _⟩ := ho2.form (by simp)
       have hB2 : Below w.heap.size w w2 := (hB1.alloc hB1.size _).grown hg2 (by have := hB1.size; simp; omega) (fun i e => by have := own_size hO1 i e; omega))
    | (go_at_call 28; refine (join_own ho2 (by simp) (Nat.le_trans hT3 (by decide))).mono ?_; rintro e w3 ⟨rfl, hb3⟩))
  go_ret
  exact ⟨rfl, hB2.trans (hb3.mono hB2.size)⟩

set_option maxRecDepth 100000 in
set_option maxHeartbeats 2000000 in
theorem told_11 (a : An) (pv : Value) (hc : a.code = 0) (h0 : -9223372036854775808 ≤ a.level) (h1 : a.level ≤ 9223372036854775807) (w : World) (henv : Env w) :
    Calls Tryd.prog 11 #[.int .i64 11, .agg (anCells a pv).toArray] w fun e w' => e = .returned (.string (joinS [okB, ito a.level])) ∧ Below w.heap.size w w' := by
  have hB := Blk.new w 32 (anCells a pv)
  have hb0 : Below w.heap.size w (w.alloc (.cells (anCells a pv).toArray 32)) := (Below.refl _ _).alloc (Nat.le_refl _) _
  have c0 : (w.alloc (.cells (anCells a pv).toArray 32)).cell? ⟨w.heap.size, 0, none⟩ = some (.int .i64 0) := hc ▸ hB.cell 0
  have hBW : Blk ((w.alloc (.cells (anCells a pv).toArray 32)).alloc (.cells #[.string ⟨#[111, 107]⟩] 9)) w.heap.size 32 (anCells a pv) := hB.alloc _
  have hoW : Blk ((w.alloc (.cells (anCells a pv).toArray 32)).alloc (.cells #[.string ⟨#[111, 107]⟩] 9)) (w.heap.size + 1) 9 [.string okB] := by
    have := Blk.new (w.alloc (.cells (anCells a pv).toArray 32)) 9 [.string okB]
    rw [World.size_alloc] at this
    exact this
  have hO : OwnS ((w.alloc (.cells (anCells a pv).toArray 32)).alloc (.cells #[.string ⟨#[111, 107]⟩] 9)) (w.heap.size + 1) (.slice (some ⟨w.heap.size + 1, 0, none⟩) 1 1) [okB] := ownS_row hoW (Nat.le_refl _)
  have hbW : Below w.heap.size w ((w.alloc (.cells (anCells a pv).toArray 32)).alloc (.cells #[.string ⟨#[111, 107]⟩] 9)) := hb0.alloc hb0.size _
  have c2 : ((w.alloc (.cells (anCells a pv).toArray 32)).alloc (.cells #[.string ⟨#[111, 107]⟩] 9)).cell? ⟨w.heap.size, 2, none⟩ = some (.int .i64 a.level) := hBW.cell 2
  obtain ⟨t, ht⟩ : ∃ t, ito a.level = t := ⟨_, rfl⟩
  have htz : t.size ≤ 25 := by rw [← ht]; have := ito_size h0 h1; omega
  have hT3 : tot [okB, t] ≤ 4000000 := by
    have h1 := tot_cons okB [t]
    rw [tot_one] at h1
    have h2 : okB.size = 2 := rfl
    omega
  have HE := Lib.hid (henv.below hbW)
  have q : ∀ W, Env W → Calls Tryd.prog 26 #[.int .i64 a.level] W fun e w' => e = .returned (.string t) ∧ Below W.heap.size W w' := fun W hW => by rw [← ht]; exact itoa_any a.level h0 h1 W hW
  rw [ht]
  have HQ := Lib.hid q
  clear q ht
  go_enter Tryd.func11, Tryd.ntmps11
  go_wp2_with (first
    | (go_at_call 26; refine (HQ.out _ HE.out).mono ?_; rintro e w1 ⟨rfl, hb1⟩
       have hO1 := hO.below hb1
       have hB1 := hbW.trans (hb1.mono hbW.size)
       have hz1 := hb1.size)
    | (refine wpList_append_s rfl _ _ rfl (w.heap.size + 1) (.slice (some ⟨w.heap.size + 1, 0, none⟩) 1 1) [okB] ⟨w1.heap.size, 0, none⟩ 1 1 [t] rfl rfl (hO1.alloc _) (by simp) (by simp at hz1 ⊢; omega) rfl (by omega) (news_s w1 [t]) ?_
       intro v' w2 ho2 hg2
       obtain ⟨g1, cap1, rfl, _, _⟩ := ho2.form (by simp)
       have hB2 : Below w.heap.size w w2 := (hB1.alloc hB1.size _).grown hg2 (by have := hB1.size; simp; omega) (fun i e => by have := own_size hO1 i e; omega))
    | (go_at_call 28; refine (join_own ho2 (by simp) (Nat.le_trans hT3 (by decide))).mono ?_; rintro e w3 ⟨rfl, hb3⟩))
  go_ret
  exact ⟨rfl, hB2.trans (hb3.mono hB2.size)⟩

set_option maxRecDepth 100000 in
set_option maxHeartbeats 2000000 in
theorem told_no (a : An) (pv : Value) (hc : a.code = 0) (hy : a.yes = false) (w : World) :
    Calls Tryd.prog 11 #[.int .i64 2, .agg (anCells a pv).toArray] w fun e w' => e = .returned (.string (joinS [okB, noB])) ∧ Below w.heap.size w w' := by
  have hB := Blk.new w 32 (anCells a pv)
  have hb0 : Below w.heap.size w (w.alloc (.cells (anCells a pv).toArray 32)) := (Below.refl _ _).alloc (Nat.le_refl _) _
  have c0 : (w.alloc (.cells (anCells a pv).toArray 32)).cell? ⟨w.heap.size, 0, none⟩ = some (.int .i64 0) := hc ▸ hB.cell 0
  have hBW : Blk ((w.alloc (.cells (anCells a pv).toArray 32)).alloc (.cells #[.string ⟨#[111, 107]⟩] 9)) w.heap.size 32 (anCells a pv) := hB.alloc _
  have hoW : Blk ((w.alloc (.cells (anCells a pv).toArray 32)).alloc (.cells #[.string ⟨#[111, 107]⟩] 9)) (w.heap.size + 1) 9 [.string okB] := by
    have := Blk.new (w.alloc (.cells (anCells a pv).toArray 32)) 9 [.string okB]
    rw [World.size_alloc] at this
    exact this
  have hO : OwnS ((w.alloc (.cells (anCells a pv).toArray 32)).alloc (.cells #[.string ⟨#[111, 107]⟩] 9)) (w.heap.size + 1) (.slice (some ⟨w.heap.size + 1, 0, none⟩) 1 1) [okB] := ownS_row hoW (Nat.le_refl _)
  have hbW : Below w.heap.size w ((w.alloc (.cells (anCells a pv).toArray 32)).alloc (.cells #[.string ⟨#[111, 107]⟩] 9)) := hb0.alloc hb0.size _
  have c7 : ((w.alloc (.cells (anCells a pv).toArray 32)).alloc (.cells #[.string ⟨#[111, 107]⟩] 9)).cell? ⟨w.heap.size, 7, none⟩ = some (.bool false) := hy ▸ hBW.cell 7
  have hT3 : tot [okB, noB] ≤ 4000000 := by decide
  go_enter Tryd.func11, Tryd.ntmps11
  go_wp2_with (first
    | (refine wpList_append_s rfl _ _ rfl (w.heap.size + 1) (.slice (some ⟨w.heap.size + 1, 0, none⟩) 1 1) [okB] ⟨w.heap.size + 2, 0, none⟩ 1 1 [noB] rfl rfl (hO.alloc _) (by simp) (by simp) rfl (by omega) (by have := news_s ((w.alloc (.cells (anCells a pv).toArray 32)).alloc (.cells #[.string ⟨#[111, 107]⟩] 9)) [noB]; rw [World.size_alloc, World.size_alloc] at this; exact this) ?_
       intro v' w2 ho2 hg2
       obtain ⟨g1, cap1, rfl, _, _⟩ := ho2.form (by simp)
       have hB2 : Below w.heap.size w w2 := (hbW.alloc hbW.size _).grown hg2 (by have := hbW.size; simp; omega) (fun i e => by have := own_size hO i e; omega))
    | (go_at_call 28; refine (join_own ho2 (by simp) (Nat.le_trans hT3 (by decide))).mono ?_; rintro e w3 ⟨rfl, hb3⟩))
  go_ret
  exact ⟨rfl, hB2.trans (hb3.mono hB2.size)⟩

set_option maxRecDepth 100000 in
set_option maxHeartbeats 2000000 in
theorem told_plain (k : Int) (h1 : (k == 1) = false) (h2 : (k == 2) = false) (h3 : (k == 3) = false) (h6 : (k == 6) = false) (h8 : (k == 8) = false) (h11 : (k == 11) = false) (a : An) (pv : Value) (hc : a.code = 0) (w : World) :
    Calls Tryd.prog 11 #[.int .i64 k, .agg (anCells a pv).toArray] w fun e w' => e = .returned (.string (joinS [okB])) ∧ Below w.heap.size w w' := by
  have hB := Blk.new w 32 (anCells a pv)
  have hb0 : Below w.heap.size w (w.alloc (.cells (anCells a pv).toArray 32)) := (Below.refl _ _).alloc (Nat.le_refl _) _
  have c0 : (w.alloc (.cells (anCells a pv).toArray 32)).cell? ⟨w.heap.size, 0, none⟩ = some (.int .i64 0) := hc ▸ hB.cell 0
  have hBW : Blk ((w.alloc (.cells (anCells a pv).toArray 32)).alloc (.cells #[.string ⟨#[111, 107]⟩] 9)) w.heap.size 32 (anCells a pv) := hB.alloc _
  have hoW : Blk ((w.alloc (.cells (anCells a pv).toArray 32)).alloc (.cells #[.string ⟨#[111, 107]⟩] 9)) (w.heap.size + 1) 9 [.string okB] := by
    have := Blk.new (w.alloc (.cells (anCells a pv).toArray 32)) 9 [.string okB]
    rw [World.size_alloc] at this
    exact this
  have hO : OwnS ((w.alloc (.cells (anCells a pv).toArray 32)).alloc (.cells #[.string ⟨#[111, 107]⟩] 9)) (w.heap.size + 1) (.slice (some ⟨w.heap.size + 1, 0, none⟩) 1 1) [okB] := ownS_row hoW (Nat.le_refl _)
  have hbW : Below w.heap.size w ((w.alloc (.cells (anCells a pv).toArray 32)).alloc (.cells #[.string ⟨#[111, 107]⟩] 9)) := hb0.alloc hb0.size _
  go_enter Tryd.func11, Tryd.ntmps11
  go_wp2_with (go_at_call 28; refine (join_own hO (by simp) (by decide)).mono ?_; rintro e w3 ⟨rfl, hb3⟩)
  go_ret
  exact ⟨rfl, hbW.trans (hb3.mono hbW.size)⟩
end Go.Proofs.YtgplaeopcejmoaaDoor
