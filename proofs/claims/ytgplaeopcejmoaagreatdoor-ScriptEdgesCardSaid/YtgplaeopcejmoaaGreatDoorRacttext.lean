/- The walk of the document's ActText. -/
import Derived.Test.YtgplaeopcejmoaaGreatDoorRmayact
import Derived.Test.YtgplaeopcejmoaaGreatDoorOrd
namespace Go.Proofs.YtgplaeopcejmoaaGreatDoor
open Go.RowKit

/-- numbers as words, each behind a blank -/
def itosB (l : List Int) : Bs := (l.map fun n => sp (ito n)).flatten
/-- what a letter of an act names -/
def letA (a : Ar) (c : UInt8) : Bs :=
  if c = 100 then sp (ito a.node) else if c = 115 then sp (ito a.source) else if c = 110 then sp (ito a.n) else if c = 111 then sp (opText a.op) else itosB a.picks
theorem partsA_words (a : Ar) : ∀ x : Fin 12, ∃ m, getI ofActL (1 + (x.val : Int)) = some m ∧ ((bs (rapPt x)).map (letA a)).flatten = ((optW (hasF m 1) (ito a.node) ++ (optW (hasF m 2) (ito a.source) ++ (optW (hasF m 4) (ito a.n) ++ (optW (hasF m 8) (opText a.op) ++ optsW (hasF m 16) (a.picks.map ito))))).map sp).flatten := by
  have h : ((a.picks.map ito).map sp).flatten = itosB a.picks := by rw [List.map_map]; rfl
  intro x
  match x with
  | ⟨0, _⟩ => exact ⟨9, rfl, rfl⟩
  | ⟨1, _⟩ => exact ⟨4, rfl, rfl⟩
  | ⟨2, _⟩ => exact ⟨4, rfl, rfl⟩
  | ⟨3, _⟩ => exact ⟨4, rfl, rfl⟩
  | ⟨4, _⟩ => exact ⟨1, rfl, rfl⟩
  | ⟨5, _⟩ => exact ⟨5, rfl, rfl⟩
  | ⟨6, _⟩ => exact ⟨17, rfl, by
    show sp (ito a.node) ++ (itosB a.picks ++ []) = sp (ito a.node) ++ ((a.picks.map ito).map sp).flatten
    rw [h, List.append_nil]⟩
  | ⟨7, _⟩ => exact ⟨21, rfl, by
    show sp (ito a.node) ++ (sp (ito a.n) ++ (itosB a.picks ++ [])) = sp (ito a.node) ++ (sp (ito a.n) ++ ((a.picks.map ito).map sp).flatten)
    rw [h, List.append_nil]⟩
  | ⟨8, _⟩ => exact ⟨3, rfl, rfl⟩
  | ⟨9, _⟩ => exact ⟨1, rfl, rfl⟩
  | ⟨10, _⟩ => exact ⟨3, rfl, rfl⟩
  | ⟨11, _⟩ => exact ⟨5, rfl, rfl⟩
theorem partsA_text (a : Ar) (x : Fin 12) (hk : a.kind = 1 + (x.val : Int)) : bs (actText a) = bs (rapNm x) ++ ((bs (rapPt x)).map (letA a)).flatten := by
  obtain ⟨m, hm, hw⟩ := partsA_words a x
  unfold actText
  rw [hk, hm]
  simp only [Option.getD_some]
  rw [actWords_opt, joinS_cons, bs_txt, hw, hk]
  congr 1
  unfold actName rapNm
  rw [if_pos (by omega), show (1 + (x.val : Int) - 1).toNat = x.val by omega]
theorem partsA_letters : ∀ x : Fin 12, ∀ c ∈ bs (rapPt x), c = 100 ∨ c = 115 ∨ c = 110 ∨ c = 111 ∨ c = 112 := by decide
theorem partsA_op : ∀ x : Fin 12, 111 ∈ bs (rapPt x) → x.val = 0 := by decide
theorem an_size : ∀ x : Fin 12, (rapNm x).size ≤ 10 := by decide
/-- the text so far -/
def soFarA (nm p : ByteArray) (f : UInt8 → Bs) (k : Nat) (s : ByteArray) : Prop := bs s = bs nm ++ (((bs p).take k).map f).flatten
theorem soFarA_next {nm p s : ByteArray} {f : UInt8 → Bs} {k : Nat} {c : UInt8} {x : Bs} (h : soFarA nm p f k s) (hc : (bs p)[k]? = some c) (hx : f c = x) : ∀ s', bs s' = bs s ++ x → soFarA nm p f (k + 1) s' := by
  intro s' hs'
  unfold soFarA at *
  obtain ⟨hl, hc⟩ := List.getElem?_eq_some_iff.1 hc
  rw [List.take_succ_eq_append_getElem hl, hc, List.map_append, List.flatten_append, ← List.append_assoc, ← h, hs']
  simp [hx]
theorem soFarA_end {nm p s : ByteArray} {f : UInt8 → Bs} (h : soFarA nm p f p.size s) : bs s = bs nm ++ ((bs p).map f).flatten := by
  unfold soFarA at h
  rw [← bs_length, List.take_length] at h
  exact h
theorem bs_app2 (s x : ByteArray) : bs (s ++ ⟨#[32]⟩ ++ x) = bs s ++ sp x := by
  simp [bs, sp, ByteArray.data_append]
theorem itosB_next {l : List Int} {j : Nat} {x : Int} (h : l[j]? = some x) : itosB (l.take (j + 1)) = itosB (l.take j) ++ sp (ito x) := by
  obtain ⟨hl, h⟩ := List.getElem?_eq_some_iff.1 h
  unfold itosB
  rw [List.take_succ_eq_append_getElem hl, h, List.map_append, List.flatten_append]
  simp

set_option maxRecDepth 100000 in
set_option maxHeartbeats 8000000 in
theorem refacttext_in (x : Fin 12) (a : Ar) (hk : a.kind = 1 + (x.val : Int)) (ok : ActOk a) (hs : smallA a) (hmo : x.val = 0 → mayOp a.op = true) (pa : Option Addr) (pc : Nat) (w : World) (henv : Env w) (hP : PkAt w pa a.picks) :
    Calls Tryz.prog 29 #[.agg (actCells a (.slice pa a.picks.length pc)).toArray] w fun e w' => e = .returned (.string (actText a)) ∧ Below w.heap.size w w' := by
  have hEnd := partsA_text a x hk
  have hBox := Blk.new w 39 (actCells a (.slice pa a.picks.length pc))
  have hB0 : Below w.heap.size w (w.alloc (.cells (actCells a (.slice pa a.picks.length pc)).toArray 39)) := (Below.refl _ w).alloc (Nat.le_refl _) _
  have hN := rap_in x
  rw [← hk] at hN
  have hlet := partsA_letters x
  have hopl := partsA_op x
  have hN2 : ∀ W, Calls Tryz.prog 71 #[.int .i64 a.kind] W fun e w' => e = .returned (.tuple #[.string (rapNm x), .string (rapPt x)]) ∧ Below W.heap.size W w' := fun W => hN W
  have hps := partsA_size x
  have hns := an_size x
  have hts : x.val = 0 → (opText a.op).size ≤ 20000 := fun _ => opText_small ok.op hs.1 hs.2.1 hs.2.2.1
  have hrt : x.val = 0 → ∀ W, Env W → Calls Tryz.prog 23 #[opV a.op] W fun e w' => e = .returned (.string (opText a.op)) ∧ Below W.heap.size W w' := fun h W hW => by
    obtain ⟨m, hm, _⟩ := mayOp_mask (hmo h)
    obtain ⟨h1, h2⟩ := named_range hm
    obtain ⟨y, hy, _⟩ := opName_nm h1 h2
    exact refoptext_in y a.op hy ok.op hs.1 hs.2.1 hs.2.2.1 W hW
  have hop : 111 ∈ bs (rapPt x) → (opText a.op).size ≤ 20000 ∧ ∀ W, Env W → Calls Tryz.prog 23 #[opV a.op] W fun e w' => e = .returned (.string (opText a.op)) ∧ Below W.heap.size W w' := fun h => ⟨hts (hopl h), hrt (hopl h)⟩
  have hpl := hs.2.2.2
  have HL := Lib.hid hlet; have HN := Lib.hid hN2; have HE := Lib.hid hEnd; have HO := Lib.hid hop; have HP := Lib.hid hP
  have HIT : Hid (∀ n : Int, -9223372036854775808 ≤ n ∧ n ≤ 9223372036854775807 → (ito n).size ≤ 21) := Lib.hid fun n h => ito_size h.1 h.2
  clear hlet hN hN2 hEnd hop hP hts hrt hopl hmo hs hk
  generalize rapNm x = nm at *
  generalize rapPt x = p at *
  clear x
  have HOK := Lib.hid ok
  obtain ⟨hn1, hs1, hm1, hpk, _, _, _⟩ := ok
  have HPK := Lib.hid hpk
  clear hpk
  obtain ⟨kind, node, source, nn, ⟨k0, m0, key, til, value, level, lsn⟩, picks⟩ := a
  simp only [actCells, opV, opCells] at *
  have c0 : (w.alloc (.cells [.int .i64 kind, .int .i64 node, .int .i64 source, .int .i64 nn, .int .i64 k0, .int .u64 (m0 : Int), .string key, .string til, .string value, .int .i64 level, .int .u64 (lsn : Int), .slice pa picks.length pc].toArray 39)).cell? ⟨w.heap.size, 0, none⟩ = some (.int .i64 kind) := hBox.cell 0
  have e1 : (⟨#[32]⟩ : ByteArray).size = 1 := rfl
  go_enter Tryz.func29, Tryz.ntmps29
  go_wp2_with (go_at_call 71; refine (HN.out _).mono ?_; rintro e w1 ⟨rfl, hb1⟩
               have hX := hBox.below hb1 hBox.lt
               have hb2 := hB0.trans (hb1.mono (by simp)))
  go_loopw [3, 5] (fun s i wr => ∃ (k : Nat) (sk : ByteArray), k ≤ p.size ∧ i = .int .i64 k ∧ s = .string sk ∧ sk.size ≤ 10 + 50000 * k ∧ Hid (soFarA nm p (letA ⟨kind, node, source, nn, ⟨k0, m0, key, til, value, level, lsn⟩, picks⟩) k sk) ∧ Below w.heap.size w wr ∧ Hid (Blk wr w.heap.size 39 [.int .i64 kind, .int .i64 node, .int .i64 source, .int .i64 nn, .int .i64 k0, .int .u64 (m0 : Int), .string key, .string til, .string value, .int .i64 level, .int .u64 (lsn : Int), .slice pa picks.length pc])) (fun _ i _ => p.size - (intOf i).toNat)
  case atStart => exact ⟨0, nm, Nat.zero_le _, rfl, rfl, by omega, Lib.hid (by unfold soFarA; simp), hb2, Lib.hid hX⟩
  case round =>
    obtain ⟨k, sk, hk, rfl, rfl, hsk, HS, hb, HX⟩ := hrel
    clear c0 hBox hB0
    by_cases hlt : k < p.size
    · obtain ⟨c, hc⟩ : ∃ c : UInt8, p[k] = c := ⟨_, rfl⟩
      have hci : ∀ h, p[k]'h = c := fun _ => hc
      have hg : (bs p)[k]? = some c := by rw [bs_get hlt, hc]
      clear hc
      have hm := HL.out c (List.mem_of_getElem? hg)
      have hmem := List.mem_of_getElem? hg
      obtain ⟨wd, hwd⟩ : ∃ wd, letA ⟨kind, node, source, nn, ⟨k0, m0, key, til, value, level, lsn⟩, picks⟩ c = wd := ⟨_, rfl⟩
      have HS2 := Lib.hid (soFarA_next HS.out hg hwd)
      clear hg
      have henv2 := henv.below hb
      have hbs := hb.size
      rcases hm with rfl | rfl | rfl | rfl | rfl
      · have f1 : wr.cell? ⟨w.heap.size, 1, none⟩ = some (.int .i64 node) := HX.out.cell 1
        have hz := HIT.out node hn1
        obtain ⟨t, ht⟩ : ∃ t, ito node = t := ⟨_, rfl⟩
        have hw2 : wd = sp t := by rw [← hwd, ← ht]; rfl
        have q : ∀ W, Env W → Calls Tryz.prog 55 #[.int .i64 node] W fun e w' => e = .returned (.string t) ∧ Below W.heap.size W w' := fun W h => by rw [← ht]; exact itoa_any node hn1.1 hn1.2 W h
        rw [ht] at hz
        have HQ := Lib.hid q; have HW := Lib.hid hw2; clear q hwd hw2 ht hmem
        go_wp2_with (go_at_call 55; refine (HQ.out _ henv2).mono ?_; rintro e w3 ⟨rfl, hb3⟩)
        go_roundw
        case rel => exact ⟨k + 1, sk ++ ⟨#[32]⟩ ++ t, by omega, by go_num, rfl, by rw [size_app, size_app]; omega, Lib.hid (HS2.out _ (by rw [HW.out]; exact bs_app2 sk t)), hb.trans (hb3.mono hbs), Lib.hid (HX.out.below hb3 HX.out.lt)⟩
        case measure => simp [intOf]; omega
      · have f2 : wr.cell? ⟨w.heap.size, 2, none⟩ = some (.int .i64 source) := HX.out.cell 2
        have hz := HIT.out source hs1
        obtain ⟨t, ht⟩ : ∃ t, ito source = t := ⟨_, rfl⟩
        have hw2 : wd = sp t := by rw [← hwd, ← ht]; rfl
        have q : ∀ W, Env W → Calls Tryz.prog 55 #[.int .i64 source] W fun e w' => e = .returned (.string t) ∧ Below W.heap.size W w' := fun W h => by rw [← ht]; exact itoa_any source hs1.1 hs1.2 W h
        rw [ht] at hz
        have HQ := Lib.hid q; have HW := Lib.hid hw2; clear q hwd hw2 ht hmem
        go_wp2_with (go_at_call 55; refine (HQ.out _ henv2).mono ?_; rintro e w3 ⟨rfl, hb3⟩)
        go_roundw
        case rel => exact ⟨k + 1, sk ++ ⟨#[32]⟩ ++ t, by omega, by go_num, rfl, by rw [size_app, size_app]; omega, Lib.hid (HS2.out _ (by rw [HW.out]; exact bs_app2 sk t)), hb.trans (hb3.mono hbs), Lib.hid (HX.out.below hb3 HX.out.lt)⟩
        case measure => simp [intOf]; omega
      · have f3 : wr.cell? ⟨w.heap.size, 3, none⟩ = some (.int .i64 nn) := HX.out.cell 3
        have hz := HIT.out nn hm1
        obtain ⟨t, ht⟩ : ∃ t, ito nn = t := ⟨_, rfl⟩
        have hw2 : wd = sp t := by rw [← hwd, ← ht]; rfl
        have q : ∀ W, Env W → Calls Tryz.prog 55 #[.int .i64 nn] W fun e w' => e = .returned (.string t) ∧ Below W.heap.size W w' := fun W h => by rw [← ht]; exact itoa_any nn hm1.1 hm1.2 W h
        rw [ht] at hz
        have HQ := Lib.hid q; have HW := Lib.hid hw2; clear q hwd hw2 ht hmem
        go_wp2_with (go_at_call 55; refine (HQ.out _ henv2).mono ?_; rintro e w3 ⟨rfl, hb3⟩)
        go_roundw
        case rel => exact ⟨k + 1, sk ++ ⟨#[32]⟩ ++ t, by omega, by go_num, rfl, by rw [size_app, size_app]; omega, Lib.hid (HS2.out _ (by rw [HW.out]; exact bs_app2 sk t)), hb.trans (hb3.mono hbs), Lib.hid (HX.out.below hb3 HX.out.lt)⟩
        case measure => simp [intOf]; omega
      · have f4 : wr.cell? ⟨w.heap.size, 4, none⟩ = some (.int .i64 k0) := HX.out.cell 4
        have f5 : wr.cell? ⟨w.heap.size, 5, none⟩ = some (.int .u64 (m0 : Int)) := HX.out.cell 5
        have f6 : wr.cell? ⟨w.heap.size, 6, none⟩ = some (.string key) := HX.out.cell 6
        have f7 : wr.cell? ⟨w.heap.size, 7, none⟩ = some (.string til) := HX.out.cell 7
        have f8 : wr.cell? ⟨w.heap.size, 8, none⟩ = some (.string value) := HX.out.cell 8
        have f9 : wr.cell? ⟨w.heap.size, 9, none⟩ = some (.int .i64 level) := HX.out.cell 9
        have f10 : wr.cell? ⟨w.heap.size, 10, none⟩ = some (.int .u64 (lsn : Int)) := HX.out.cell 10
        obtain ⟨hz, q⟩ := HO.out hmem
        have hwd' : sp (opText ⟨k0, m0, key, til, value, level, lsn⟩) = wd := hwd
        generalize opText ⟨k0, m0, key, til, value, level, lsn⟩ = t at *
        have hw2 : wd = sp t := hwd'.symm
        have HQ := Lib.hid q; have HW := Lib.hid hw2; clear q hwd hwd' hw2 hmem
        go_wp2_with (go_at_call 23; refine (HQ.out _ henv2).mono ?_; rintro e w3 ⟨rfl, hb3⟩)
        go_roundw
        case rel => exact ⟨k + 1, sk ++ ⟨#[32]⟩ ++ t, by omega, by go_num, rfl, by rw [size_app, size_app]; omega, Lib.hid (HS2.out _ (by rw [HW.out]; exact bs_app2 sk t)), hb.trans (hb3.mono hbs), Lib.hid (HX.out.below hb3 HX.out.lt)⟩
        case measure => simp [intOf]; omega
      · have hw2 : wd = itosB picks := hwd.symm
        have HW := Lib.hid hw2; clear hwd hw2 hmem
        go_wp2
        go_loopw [3, 6] (fun s i wz => ∃ (j : Nat) (sj : ByteArray), j ≤ picks.length ∧ i = .int .i64 j ∧ s = .string sj ∧ sj.size ≤ 10 + 50000 * k + 22 * j ∧ Hid (bs sj = bs sk ++ itosB (picks.take j)) ∧ Below w.heap.size w wz ∧ Hid (Blk wz w.heap.size 39 [.int .i64 kind, .int .i64 node, .int .i64 source, .int .i64 nn, .int .i64 k0, .int .u64 (m0 : Int), .string key, .string til, .string value, .int .i64 level, .int .u64 (lsn : Int), .slice pa picks.length pc])) (fun _ i _ => picks.length - (intOf i).toNat)
        case atStart => exact ⟨0, sk, Nat.zero_le _, rfl, rfl, by omega, Lib.hid (by simp [itosB]), hb, HX⟩
        case round =>
          obtain ⟨j, sj, hj, rfl, rfl, hsj, HJ, hbz, HZ⟩ := hrel
          have f11 : wr.cell? ⟨w.heap.size, 11, none⟩ = some (.slice pa picks.length pc) := HZ.out.cell 11
          by_cases hjl : j < picks.length
          · have hne : picks ≠ [] := fun e => by rw [e] at hjl; simp at hjl
            obtain ⟨x, hx⟩ : ∃ x, picks[j]? = some x := ⟨_, List.getElem?_eq_getElem hjl⟩
            obtain ⟨g, o, rfl, hgl, hcl⟩ := HP.out hne
            have y1 : wr.cell? ⟨g, o + j, none⟩ = some (.int .i64 x) := (hbz.cell (p := ⟨g, o + j, none⟩) hgl).trans (hcl j x hx)
            have hxr := HPK.out x (List.mem_of_getElem? hx)
            have hz := HIT.out x hxr
            obtain ⟨t, ht⟩ : ∃ t, ito x = t := ⟨_, rfl⟩
            have q : ∀ W, Env W → Calls Tryz.prog 55 #[.int .i64 x] W fun e w' => e = .returned (.string t) ∧ Below W.heap.size W w' := fun W h => by rw [← ht]; exact itoa_any x hxr.1 hxr.2 W h
            rw [ht] at hz
            have hj2 : bs (sj ++ ⟨#[32]⟩ ++ t) = bs sk ++ itosB (picks.take (j + 1)) := by rw [bs_app2, HJ.out, itosB_next hx, ht, List.append_assoc]
            have HQ := Lib.hid q; have HJ2 := Lib.hid hj2; clear q ht hj2 hx hcl hne
            have henv3 := henv.below hbz
            have hbzs := hbz.size
            go_wp2_with (go_at_call 55; refine (HQ.out _ henv3).mono ?_; rintro e w3 ⟨rfl, hb3⟩)
            go_roundw
            case rel => exact ⟨j + 1, sj ++ ⟨#[32]⟩ ++ t, by omega, by go_num, rfl, by rw [size_app, size_app]; omega, HJ2, hbz.trans (hb3.mono hbzs), Lib.hid (HZ.out.below hb3 HZ.out.lt)⟩
            case measure => simp [intOf]; omega
          · obtain rfl : j = picks.length := by omega
            go_wp2
            go_roundw
            case rel => exact ⟨k + 1, sj, by omega, by go_num, rfl, by omega, Lib.hid (HS2.out _ (by rw [HW.out, HJ.out, List.take_length])), hbz, HZ⟩
            case measure => simp [intOf]; omega
    · obtain rfl : k = p.size := by omega
      go_wp2
      go_ret
      refine ⟨ret_str ?_, hb⟩
      have := soFarA_end HS.out
      rw [← HE.out] at this
      rw [← txt_bs sk, this, txt_bs]
end Go.Proofs.YtgplaeopcejmoaaGreatDoor
