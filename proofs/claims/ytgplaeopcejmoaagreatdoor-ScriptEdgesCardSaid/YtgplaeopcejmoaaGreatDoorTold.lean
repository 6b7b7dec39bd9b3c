/- The walk of Told, way by way. -/
import Derived.Test.YtgplaeopcejmoaaGreatDoorActtx
namespace Go.Proofs.YtgplaeopcejmoaaGreatDoor
open Go.RowKit Go.Shelf

structure An where
  code : Int
  n : Nat
  level : Int
  lsn : Nat
  pos : Nat
  tl : Nat
  value : ByteArray
  yes : Bool
def anCells (a : An) (pv : Value) : List Value := [.int .i64 a.code, .int .u64 (a.n : Int), .int .i64 a.level, .int .u64 (a.lsn : Int), .int .u64 (a.pos : Int), .int .u64 (a.tl : Int), .string a.value, .bool a.yes, pv]
def sp (x : ByteArray) : Bs := 32 :: bs x
/-- an answer that refuses -/
def errB (a : An) : ByteArray := txt ([101, 114, 114, 111, 114, 32] ++ bs (ito a.code) ++ (if a.lsn = 0 then [] else sp (dec a.lsn)))
theorem cat (a b : ByteArray) : a ++ b = txt (bs a ++ bs b) := by
  apply ByteArray.ext
  simp [txt, bs, ByteArray.data_append]
theorem joinS_cons (x : ByteArray) (r : List ByteArray) : joinS (x :: r) = txt (bs x ++ (r.map sp).flatten) := by
  unfold joinS
  rw [List.map_cons, Lib.join_cons]
  unfold Lib.joinTail
  rw [List.map_map]
  rfl

set_option maxRecDepth 100000 in
set_option maxHeartbeats 2000000 in
theorem told_err (k : Int) (a : An) (pv : Value) (hc : a.code ≠ 0) (h0 : -9223372036854775808 ≤ a.code) (h1 : a.code ≤ 9223372036854775807) (hl : a.lsn < 18446744073709551616) (w : World) (henv : Env w) :
    Calls Tryz.prog 42 #[.int .i64 k, .agg (anCells a pv).toArray] w fun e w' => e = .returned (.string (errB a)) ∧ Below w.heap.size w w' := by
  have hB := Blk.new w 81 (anCells a pv)
  have hb0 : Below w.heap.size w (w.alloc (.cells (anCells a pv).toArray 81)) := (Below.refl _ _).alloc (Nat.le_refl _) _
  have c0 : (w.alloc (.cells (anCells a pv).toArray 81)).cell? ⟨w.heap.size, 0, none⟩ = some (.int .i64 a.code) := hB.cell 0
  have c3 : (w.alloc (.cells (anCells a pv).toArray 81)).cell? ⟨w.heap.size, 3, none⟩ = some (.int .u64 (a.lsn : Int)) := hB.cell 3
  have hcb : (a.code != 0) = true := by simpa using hc
  obtain ⟨ti, hti⟩ : ∃ ti, ito a.code = ti := ⟨_, rfl⟩
  have hts : ti.size ≤ 21 := hti ▸ ito_size h0 h1
  obtain ⟨tl, htl⟩ : ∃ tl, dec a.lsn = tl := ⟨_, rfl⟩
  have htz : tl.size ≤ 20 := htl ▸ dec_size hl
  have e6 : (⟨#[101, 114, 114, 111, 114, 32]⟩ : ByteArray).size = 6 := rfl
  have e1 : (⟨#[32]⟩ : ByteArray).size = 1 := rfl
  by_cases hz : a.lsn = 0
  · have hzb : ((a.lsn : Int) != 0) = false := by rw [hz]; rfl
    go_enter Tryz.func42, Tryz.ntmps42
    go_wp2_with (go_at_call 55; refine (itoa_any a.code h0 h1 _ (henv.below hb0)).mono ?_; rintro e w1 ⟨he, hb1⟩; rw [show (⟨(Lib.itoa a.code).toArray⟩ : ByteArray) = ti from hti] at he; subst he
                 have c3x : w1.cell? ⟨w.heap.size, 3, none⟩ = some (.int .u64 (a.lsn : Int)) := (hb1.cell (p := ⟨w.heap.size, 3, none⟩) (by simp)).trans c3)
    go_ret
    refine ⟨ret_str ?_, hb0.trans (hb1.mono (by simp))⟩
    unfold errB
    rw [hti, if_pos hz, cat, List.append_nil]
  · have hzb : ((a.lsn : Int) != 0) = true := by simp; omega
    go_enter Tryz.func42, Tryz.ntmps42
    go_wp2_with (first
      | (go_at_call 55; refine (itoa_any a.code h0 h1 _ (henv.below hb0)).mono ?_; rintro e w1 ⟨he, hb1⟩; rw [show (⟨(Lib.itoa a.code).toArray⟩ : ByteArray) = ti from hti] at he; subst he
         have c3x : w1.cell? ⟨w.heap.size, 3, none⟩ = some (.int .u64 (a.lsn : Int)) := (hb1.cell (p := ⟨w.heap.size, 3, none⟩) (by simp)).trans c3
         have hb2 := hb0.trans (hb1.mono (by simp)))
      | (go_at_call 54; refine (natural_any a.lsn hl _ (henv.below hb2)).mono ?_; rintro e w3 ⟨he, hb3⟩; rw [show (⟨(Lib.decDigits a.lsn).toArray⟩ : ByteArray) = tl from htl] at he; subst he))
    go_ret
    refine ⟨ret_str ?_, hb2.trans (hb3.mono hb2.size)⟩
    unfold errB sp
    rw [hti, htl, if_neg hz, cat, cat, cat]
    simp [bs, txt]

def okB : ByteArray := ⟨#[111, 107]⟩
def yesB : ByteArray := ⟨#[121, 101, 115]⟩
def noB : ByteArray := ⟨#[110, 111]⟩

set_option maxRecDepth 100000 in
set_option maxHeartbeats 2000000 in
theorem told_yes (a : An) (pv : Value) (hc : a.code = 0) (hy : a.yes = true) (hv : a.value.size ≤ 1000000) (w : World) :
    Calls Tryz.prog 42 #[.int .i64 2, .agg (anCells a pv).toArray] w fun e w' => e = .returned (.string (joinS [okB, yesB, wtx a.value])) ∧ Below w.heap.size w w' := by
  have hB := Blk.new w 81 (anCells a pv)
  have hb0 : Below w.heap.size w (w.alloc (.cells (anCells a pv).toArray 81)) := (Below.refl _ _).alloc (Nat.le_refl _) _
  have c0 : (w.alloc (.cells (anCells a pv).toArray 81)).cell? ⟨w.heap.size, 0, none⟩ = some (.int .i64 0) := hc ▸ hB.cell 0
  have hBW : Blk ((w.alloc (.cells (anCells a pv).toArray 81)).alloc (.cells #[.string ⟨#[111, 107]⟩] 9)) w.heap.size 81 (anCells a pv) := hB.alloc _
  have c6 : ((w.alloc (.cells (anCells a pv).toArray 81)).alloc (.cells #[.string ⟨#[111, 107]⟩] 9)).cell? ⟨w.heap.size, 6, none⟩ = some (.string a.value) := hBW.cell 6
  have c7 : ((w.alloc (.cells (anCells a pv).toArray 81)).alloc (.cells #[.string ⟨#[111, 107]⟩] 9)).cell? ⟨w.heap.size, 7, none⟩ = some (.bool true) := hy ▸ hBW.cell 7
  have hoW : Blk ((w.alloc (.cells (anCells a pv).toArray 81)).alloc (.cells #[.string ⟨#[111, 107]⟩] 9)) (w.heap.size + 1) 9 [.string okB] := by
    have := Blk.new (w.alloc (.cells (anCells a pv).toArray 81)) 9 [.string okB]
    rw [World.size_alloc] at this
    exact this
  have hO : OwnS ((w.alloc (.cells (anCells a pv).toArray 81)).alloc (.cells #[.string ⟨#[111, 107]⟩] 9)) (w.heap.size + 1) (.slice (some ⟨w.heap.size + 1, 0, none⟩) 1 1) [okB] := ownS_row hoW (Nat.le_refl _)
  have hbW : Below w.heap.size w ((w.alloc (.cells (anCells a pv).toArray 81)).alloc (.cells #[.string ⟨#[111, 107]⟩] 9)) := hb0.alloc hb0.size _
  have hT3 : tot [okB, yesB, wtx a.value] ≤ 4000000 := by
    have h1 := wtx_size hv
    have h2 := tot_app [okB, yesB] [wtx a.value]
    rw [tot_one] at h2
    have h3 : tot [okB, yesB] = 5 := by decide
    have h4 : tot [okB, yesB, wtx a.value] = tot [okB, yesB] + (wtx a.value).size := h2
    omega
  go_enter Tryz.func42, Tryz.ntmps42
  go_wp2_with (first
    | (go_at_call 15; refine (word_any a.value hv _).mono ?_; rintro e w1 ⟨rfl, hb1⟩
       have hO1 := hO.below hb1
       have hB1 := hbW.trans (hb1.mono hbW.size)
       have hz1 := hb1.size)
    | (refine wpList_append_s rfl _ _ rfl (w.heap.size + 1) (.slice (some ⟨w.heap.size + 1, 0, none⟩) 1 1) [okB] ⟨w1.heap.size, 0, none⟩ 2 2 [yesB, wtx a.value] rfl rfl (hO1.alloc _) (by simp) (by simp at hz1 ⊢; omega) rfl (by omega) (news_s w1 [yesB, wtx a.value]) ?_
       intro v' w2 ho2 hg2
       obtain ⟨g1, cap1, rfl, _, _⟩ := ho2.form (by simp)
       have hB2 : Below w.heap.size w w2 := (hB1.alloc hB1.size _).grown hg2 (by have := hB1.size; simp; omega) (fun i e => by have := own_size hO1 i e; omega))
    | (go_at_call 56; refine (join_own ho2 (by simp) (Nat.le_trans hT3 (by decide))).mono ?_; rintro e w3 ⟨rfl, hb3⟩))
  go_ret
  exact ⟨rfl, hB2.trans (hb3.mono hB2.size)⟩
end Go.Proofs.YtgplaeopcejmoaaGreatDoor
