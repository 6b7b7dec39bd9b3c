/- The law ScriptEdges, walked. -/
import Derived.Test.YtgplaeopcejmoaaGreatDoorEdgesb
namespace Go.Proofs.YtgplaeopcejmoaaGreatDoor
open Go.RowKit Go.Shelf

theorem StrRow.set {W : World} {g : Nat} {l : List ByteArray} (h : StrRow W g l) {k : Nat} (hk : k < l.length) (x : ByteArray) : StrRow (W.setCell ⟨g, k, none⟩ (.string x)) g (l.set k x) := by
  refine ⟨by rw [World.size_setCell]; exact h.lt, fun j y hy => ?_⟩
  rw [List.getElem?_set] at hy
  split at hy
  · rename_i e
    subst e
    injection hy with hy
    subst hy
    exact World.cell?_setCell_same _ _ _ (h.cell k _ (List.getElem?_eq_getElem hk))
  · rename_i e
    rw [World.cell?_setCell_other _ _ _ _ (by intro e2; injection e2 with _ e3; exact e e3)]
    exact h.cell j y hy
theorem StrRow.full {W : World} {g : Nat} {l : List ByteArray} (h : StrRow W g l) : StrAt W (some ⟨g, 0, none⟩) l := by
  have := h.str l.length
  rwa [List.take_length] at this
theorem StrRow.from {W : World} {g : Nat} {l : List ByteArray} (h : StrRow W g l) (k : Nat) : StrAt W (some ⟨g, k, none⟩) (l.drop k) := fun _ => ⟨g, k, rfl, h.lt, fun j x hx => by
  rw [List.getElem?_drop] at hx
  exact h.cell (k + j) x hx⟩
theorem bl_alloc {a b : World} (h : Below a.heap.size a b) (x : Obj) : Below a.heap.size a (b.alloc x) := h.alloc h.size x
theorem bl_turn {a b c : World} {row : Option Nat} (h : Below a.heap.size a b) (hg : b.grownBy c row) (hr : ∀ k, row = some k → a.heap.size ≤ k) : Below a.heap.size a c := h.grown hg h.size hr
theorem bl_next {a b c : World} (h : Below a.heap.size a b) (hb : Below b.heap.size b c) : Below a.heap.size a c := h.trans (hb.mono h.size)
theorem infoSet : (Tryz.prog.info? 60).map (·.size) = some 5 := by kernel_rfl
abbrev setV : List Value := [.int .i64 2, .int .i64 900, .int .i64 4, .int .i64 1, .int .i64 0]
abbrev setZ : List Value := [.int .i64 0, .int .i64 0, .int .i64 0, .int .i64 0, .int .i64 0]

set_option maxRecDepth 100000 in
set_option maxHeartbeats 8000000 in
theorem lawEdges_any (w : World) (henv : Env w) : Calls Tryz.prog 10 #[] w fun e w' => e = .returned (.bool true) ∧ Below w.heap.size w w' := by
  obtain ⟨XA, hmk, hth⟩ := mk_acts
  obtain ⟨XB, tb, htb, hmb, hcb⟩ := mk_bytes 4194305 (by decide)
  obtain ⟨LA, LB, tt, hat, hta, htbb⟩ := edges_text
  simp only [show ((4194305 : Nat) : Int) = 4194305 from rfl] at hmb
  have HTB := Lib.hid htb; have HE := Lib.hid henv; have HTH := Lib.hid hth; have HAT := Lib.hid hat; have HTA := Lib.hid hta; have HTT := Lib.hid htbb
  clear htb henv hth hat hta htbb
  have hS1 := Blk.new w 60 setV
  have hB1 : Below w.heap.size w ((w.alloc (.cells setV.toArray 60)).alloc XA) := bl_alloc ((Below.refl _ _).alloc (Nat.le_refl _) _) XA
  have hS2 := hS1.alloc XA
  have hf0 : Fil ((w.alloc (.cells setV.toArray 60)).alloc XA) (w.heap.size + 1) 0 := by
    have := HTH.out (w.alloc (.cells setV.toArray 60))
    rw [World.size_alloc] at this
    exact Fil.start this (by simp)
  have HB1 := Lib.hid hB1; have HS2 := Lib.hid hS2; have HF0 := Lib.hid hf0
  clear hB1 hS2 hf0 hS1
  obtain ⟨N, hN⟩ : ∃ N : Nat, N = 65537 := ⟨_, rfl⟩
  have HN := Lib.hid hN
  clear hN
  go_enter Tryz.func10, Tryz.ntmps10
  go_wp2_with fail
  go_loopw [3] (fun i wr => ∃ k : Nat, k ≤ N ∧ i = .int .i64 k ∧ Hid (Fil wr (w.heap.size + 1) k) ∧ Hid (Blk wr w.heap.size 60 setV) ∧ Hid (Below w.heap.size w wr)) (fun i _ => N - (intOf i).toNat)
  case atStart => exact ⟨0, Nat.zero_le _, rfl, HF0, HS2, HB1⟩
  case round =>
    clear HF0 HS2 HB1
    obtain ⟨k, hk, rfl, HF, HS, HB⟩ := hrel
    by_cases hlt : k < N
    · have hlt2 : (k : Int) < 65537 := by have := HN.out; omega
      have hlt3 : k < 65537 := by have := HN.out; omega
      have HLT := Lib.hid hlt3
      clear hlt3
      go_wp2_with (refine wpList_fil rfl (.tmp 29) (.tmp 28) rfl (w.heap.size + 1) k (by first | rfl | simp [Act.eval]) rfl HF.out HLT.out ?_; intro w2 hf2 hg2)
      go_roundw
      case rel => exact ⟨k + 1, by omega, by go_num, Lib.hid hf2, Lib.hid (HS.out.grown hg2 (by intro e; injection e with e; omega)), Lib.hid (bl_turn HB.out hg2 (fun k e => by injection e with e; omega))⟩
      case measure => simp [intOf]; omega
    · obtain rfl : k = 65537 := by have := HN.out; omega
      have hA1 := (HAT.out _ _ HF.out).1
      have hA2 := (HAT.out _ _ HF.out).2
      have c0 := HS.out.cell 0; have c1 := HS.out.cell 1; have c2 := HS.out.cell 2; have c3 := HS.out.cell 3; have c4 := HS.out.cell 4
      have HA1 := Lib.hid hA1; have HA2 := Lib.hid hA2
      clear hA1 hA2 hlt hk
      go_upto_region 8 with (go_at_call 33; refine (HTA.out _ _ _ (HE.out.below HB.out) HA1.out).mono ?_; rintro e w3 ⟨rfl, hb3⟩)
      have HB3 := Lib.hid (bl_next HB.out hb3); have HS3 := Lib.hid (HS.out.below hb3 HS.out.lt); have HA3 := Lib.hid (HA2.out.below hb3)
      clear c0 c1 c2 c3 c4 hb3 HA1 HA2 HS HB HF
      have c0 := HS3.out.cell 0; have c1 := HS3.out.cell 1; have c2 := HS3.out.cell 2; have c3 := HS3.out.cell 3; have c4 := HS3.out.cell 4
      go_region_held3 (fun W => W.cell? ⟨w.heap.size, 0, none⟩ = some (.int .i64 2) ∧ W.cell? ⟨w.heap.size, 1, none⟩ = some (.int .i64 900) ∧ W.cell? ⟨w.heap.size, 2, none⟩ = some (.int .i64 4) ∧ W.cell? ⟨w.heap.size, 3, none⟩ = some (.int .i64 1) ∧ W.cell? ⟨w.heap.size, 4, none⟩ = some (.int .i64 0)) (first | with_reducible exact ⟨e0, e1, e2, e3, e4⟩ | go_keep)
        (first
          | (go_at_call 33
             refine (HTT.out _ _ _ (HE.out.below (by repeat (first | with_reducible exact HB3.out | with_reducible refine Below.drew ?_))) (by first | exact HA3.out.drew | exact HA3.out)).mono ?_
             rintro e w4 ⟨rfl, hb4⟩
             try replace hb4 := below_undrew hb4
             have HB4 := Lib.hid (bl_next HB3.out hb4); have HS4 := Lib.hid (HS3.out.below hb4 HS3.out.lt)
             have e0 := HS4.out.cell 0; have e1 := HS4.out.cell 1; have e2 := HS4.out.cell 2; have e3 := HS4.out.cell 3; have e4 := HS4.out.cell 4
             clear hb4 c0 c1 c2 c3 c4))
      all_goals
        clear e0 e1 e2 e3 e4 hmk
        go_upto_region 10 with (first
          | (go_at_call 36; refine (parse_long tb (by rw [HTB.out]; decide) _).mono ?_; rintro e w5 ⟨rfl, hb5⟩)
          | (refine wpList_store_blk rfl 63 (.tmp 8) (.tmp 49) rfl w5.heap.size (scrCells scrZ (.slice none 0 0)) rfl rfl 63 (scrCells scrZ (.slice none 0 0)) (heap_alloc_new w5 _) infoScr rfl (by simp [scrCells, Value.oneCell']) ?_; intro w6 hS6 hg6))
        have HB6 := Lib.hid (show Below w.heap.size w w6 from bl_turn (bl_alloc (bl_next (bl_alloc HB4.out XB) hb5) _) hg6 (fun k e => by injection e with e; have := (bl_next (bl_alloc HB4.out XB) hb5).size; omega))
        clear hb5 hg6 hS6 hmb hcb HB4 HS4 HA3 HB3 HS3 HAT HTA HTT HTB HTH
        go_wp2_with (go_at_call 14; refine (num_any _ _).mono ?_; rintro e wq ⟨rfl, rfl⟩)
        go_loopw [11] (fun i wr => ∃ n : Nat, 511 ≤ n ∧ n ≤ 514 ∧ i = .int .i64 n ∧ Hid (Below w.heap.size w wr)) (fun i _ => 514 - (intOf i).toNat)
        case atStart => exact ⟨511, by omega, by omega, rfl, HB6⟩
        case round =>
          clear HB6
          obtain ⟨n, h511, h514, rfl, HB⟩ := hrel
          by_cases hlt : n < 514
          · obtain ⟨XC, tc, htc, hmc, hcc⟩ := mk_bytes n (by omega)
            obtain ⟨XD, hmd⟩ := mk_ints n (by omega)
            obtain ⟨b, hb⟩ : ∃ b, decide (n ≤ 512) = b := ⟨_, rfl⟩
            have g1 := fun W => get_call tc b (by rw [htc]; exact hb) W
            have g2 := fun W => put_call tc b (by rw [htc]; exact hb) W
            have g3 := fun p W => crash_call n b hb p W
            have G1 := Lib.hid g1; have G2 := Lib.hid g2; have G3 := Lib.hid g3
            have c1 : (n : Int) < 514 := by omega
            clear g1 g2 g3 htc
            cases b
            · have c2 : ¬ (n : Int) < 513 := by have := of_decide_eq_false hb; omega
              clear hb
              go_wp2_with (first
                | (go_at_call 19; with_reducible refine (G1.out _).mono ?_; rintro e wa ⟨rfl, hba⟩)
                | (go_at_call 19; with_reducible refine (G2.out _).mono ?_; rintro e wb ⟨rfl, hbb⟩)
                | (go_at_call 27; with_reducible refine (G3.out _ _).mono ?_; rintro e wc ⟨rfl, hbc⟩))
              go_roundw
              case rel => exact ⟨n + 1, by omega, by omega, by go_num, Lib.hid (bl_next (bl_alloc (bl_next (bl_next (bl_alloc HB.out _) hba) hbb) _) hbc)⟩
              case measure => simp [intOf]; omega
            · have c2 : (n : Int) < 513 := by have := of_decide_eq_true hb; omega
              clear hb
              go_wp2_with (first
                | (go_at_call 19; with_reducible refine (G1.out _).mono ?_; rintro e wa ⟨rfl, hba⟩)
                | (go_at_call 19; with_reducible refine (G2.out _).mono ?_; rintro e wb ⟨rfl, hbb⟩)
                | (go_at_call 27; with_reducible refine (G3.out _ _).mono ?_; rintro e wc ⟨rfl, hbc⟩))
              go_roundw
              case rel => exact ⟨n + 1, by omega, by omega, by go_num, Lib.hid (bl_next (bl_alloc (bl_next (bl_next (bl_alloc HB.out _) hba) hbb) _) hbc)⟩
              case measure => simp [intOf]; omega
          · obtain rfl : n = 514 := by omega
            rw [show ((514 : Nat) : Int) = 514 from rfl]
            clear h511 h514 hlt
            go_wp2_with fail
            have hH0 : StrRow ((wr.alloc (.cells (headL.map Value.string).toArray 9)).alloc (.cells (oddL.map Value.string).toArray 9)) wr.heap.size headL := strRow_of ((Blk.new wr 9 (headL.map Value.string)).alloc _)
            have hO0 : StrRow ((wr.alloc (.cells (headL.map Value.string).toArray 9)).alloc (.cells (oddL.map Value.string).toArray 9)) (wr.heap.size + 1) oddL := by
              have := strRow_of (Blk.new (wr.alloc (.cells (headL.map Value.string).toArray 9)) 9 (oddL.map Value.string))
              rwa [World.size_alloc] at this
            have hB0 : Below w.heap.size w ((wr.alloc (.cells (headL.map Value.string).toArray 9)).alloc (.cells (oddL.map Value.string).toArray 9)) := bl_alloc (bl_alloc HB.out _) _
            have HH0 := Lib.hid hH0; have HO0 := Lib.hid hO0; have HB0 := Lib.hid hB0
            obtain ⟨T6, TH, hz⟩ := edge_z
            have HZ := Lib.hid hz
            clear hH0 hO0 hB0 HB hz
            generalize hgh : wr.heap.size = gh at *
            go_loopw [16] (fun i wx => ∃ k : Nat, k ≤ 5 ∧ i = .int .i64 k ∧ Hid (StrRow wx gh headL) ∧ Hid (StrRow wx (gh + 1) oddL) ∧ Hid (Below w.heap.size w wx)) (fun i _ => 5 - (intOf i).toNat)
            case atStart => exact ⟨0, by omega, rfl, HH0, HO0, HB0⟩
            case round =>
              clear HH0 HO0 HB0 hgh
              obtain ⟨k, hk, rfl, HH, HO, HB⟩ := hrel
              by_cases hlt : k < 5
              · obtain ⟨x, T1, T2, T3, hkk⟩ := edge_k k hlt
                have HK := Lib.hid hkk
                have hgs := HH.out.lt
                clear hkk hk
                obtain rfl | rfl | rfl | rfl | rfl : k = 0 ∨ k = 1 ∨ k = 2 ∨ k = 3 ∨ k = 4 := by omega
                all_goals
                  first
                    | rw [show ((0 : Nat) : Int) = 0 from rfl]
                    | rw [show ((1 : Nat) : Int) = 1 from rfl]
                    | rw [show ((2 : Nat) : Int) = 2 from rfl]
                    | rw [show ((3 : Nat) : Int) = 3 from rfl]
                    | rw [show ((4 : Nat) : Int) = 4 from rfl]
                  go_upto_region 25 with (refine wpList_append_s rfl (.const (.slice none 0 0)) (.tmp 104) rfl wr.heap.size (.slice none 0 0) [] ⟨gh, 0, none⟩ 5 5 headL rfl rfl (OwnS.nil _ _) (by simp) (Nat.le_refl _) rfl (by omega) (StrRow.news HH.out 0 (fun j y h => by rw [Nat.zero_add]; exact h)) ?_; intro v3 w3 ho3 hg3)
                  rw [List.nil_append] at ho3
                  obtain ⟨gl, cl, rfl, hgl, hrl, hfl⟩ := ho3.free (by decide)
                  rw [headL_len]
                  have hb3 : Below wr.heap.size wr w3 := bl_turn (Below.refl _ _) hg3 (fun k e => by cases e)
                  have HH3 := HH.out.below hb3
                  have HO3 := HO.out.below hb3
                  have HB3 := bl_next HB.out hb3
                  have hod := HO3.cell _ x HK.out.hx
                  have hcl := hrl.cell _ _ (List.getElem?_eq_getElem (l := headL) hlt)
                  have hb4 := fun (j : Nat) (y : Value) => (show Below wr.heap.size wr (w3.setCell ⟨gl, j, none⟩ y) from bl_turn hb3 (grown_setCell w3 gl j y) (fun k e => by injection e with e; omega))
                  have hr4 := hrl.set (show _ < headL.length from hlt) x
                  have HR4 := Lib.hid hr4
                  have HB4 := Lib.hid hb4
                  clear hr4 hb4 HO3 HH3 HB3 ho3 hg3 hrl
                  go_wp2_with (first
                    | (go_at_call 40; with_reducible refine (HK.out.l1 _ _ _ HR4.out.full).mono ?_; rintro e wa ⟨rfl, hba⟩; have HBa := bl_next (bl_next HB.out (HB4.out _ _)) hba; have HHa := (HH.out.below (HB4.out _ _)).below hba)
                    | (go_at_call 41; with_reducible refine (HK.out.w1 _ _ ?_ (HE.out.below HBa)).mono ?_; (focus omega); rintro e wb ⟨rfl, hbb⟩; have HBb := bl_next HBa hbb; have HHb := HHa.below hbb)
                    | (go_at_call 40; with_reducible refine (HK.out.l2 _ _ _ _ ?_ (HHb.str _)).mono ?_; (focus omega); rintro e wc ⟨rfl, hbc⟩; have HBc := bl_next HBb hbc; have HHc := HHb.below hbc)
                    | (go_at_call 41; with_reducible refine (HK.out.w2 _ _ ?_ (HE.out.below HBc)).mono ?_; (focus omega); rintro e wd ⟨rfl, hbd⟩; have HBd := bl_next HBc hbd; have HHd := HHc.below hbd)
                    | (go_at_call 40; with_reducible refine (HK.out.l3 _ _ _ _ ?_ (HHd.from _)).mono ?_; (focus omega); rintro e we ⟨rfl, hbe⟩; have HBe := bl_next HBd hbe)
                    | (go_at_call 41; with_reducible refine (HK.out.w3 _ true ?_ (HE.out.below HBe)).mono ?_; (focus (simp; done)); rintro e wf ⟨rfl, hbf⟩; have HBf := bl_next HBe hbf)
                    | (go_at_call 41; with_reducible refine (HK.out.w3 _ false ?_ (HE.out.below HBe)).mono ?_; (focus (simp; done)); rintro e wf ⟨rfl, hbf⟩; have HBf := bl_next HBe hbf))
                  have hbAll := bl_next (bl_next (bl_next (bl_next (bl_next (bl_next (HB4.out _ _) hba) hbb) hbc) hbd) hbe) hbf
                  have HHf := Lib.hid (HH.out.below hbAll)
                  have HOf := Lib.hid (HO.out.below hbAll)
                  have HBg := Lib.hid HBf
                  clear hba hbb hbc hbd hbe hbf hbAll HBa HBb HBc HBd HBe HBf HHa HHb HHc HHd
                  go_roundw
                  case rel => first
                    | exact ⟨1, by omega, by rfl, HHf, HOf, HBg⟩
                    | exact ⟨2, by omega, by rfl, HHf, HOf, HBg⟩
                    | exact ⟨3, by omega, by rfl, HHf, HOf, HBg⟩
                    | exact ⟨4, by omega, by rfl, HHf, HOf, HBg⟩
                    | exact ⟨5, by omega, by rfl, HHf, HOf, HBg⟩
                  case measure => first
                    | (simp [intOf]; done)
                    | (simp [intOf]; omega)
              · obtain rfl : k = 5 := by omega
                rw [show ((5 : Nat) : Int) = 5 from rfl]
                have hb1 : Below wr.heap.size wr (wr.alloc (.cells #[.string ⟨#[110, 111, 100, 101, 115, 32, 54]⟩, .string ⟨#[99, 97, 112, 97, 99, 105, 116, 121, 32, 57]⟩, .string ⟨#[102, 114, 97, 109, 101, 115, 32, 52]⟩, .string ⟨#[113, 117, 111, 114, 117, 109, 32, 48]⟩, .string ⟨#[100, 101, 108, 97, 121, 32, 48]⟩] 9)) := bl_alloc (Below.refl _ _) _
                have hS6 : StrRow (wr.alloc (.cells #[.string ⟨#[110, 111, 100, 101, 115, 32, 54]⟩, .string ⟨#[99, 97, 112, 97, 99, 105, 116, 121, 32, 57]⟩, .string ⟨#[102, 114, 97, 109, 101, 115, 32, 52]⟩, .string ⟨#[113, 117, 111, 114, 117, 109, 32, 48]⟩, .string ⟨#[100, 101, 108, 97, 121, 32, 48]⟩] 9)) wr.heap.size sixL := strRow_of (Blk.new wr 9 (sixL.map Value.string))
                have HS6 := Lib.hid hS6
                have HHz := HH.out.below hb1
                have HBz := bl_next HB.out hb1
                have z0 := HZ.out.sz
                have z1 : ¬ 9223372036854775807 < TH.size + 6 := by omega
                have z2 : ¬ 9223372036854775807 < TH.size + 1 := by omega
                have z3 : ¬ 9223372036854775807 < TH.size + 15 := by omega
                clear hS6 hb1 z0 hlt hk HO
                go_wp2_with (first
                  | (go_at_call 40; with_reducible refine (HZ.out.l6 _ _ _ HS6.out.full).mono ?_; rintro e w6 ⟨rfl, hb6⟩; replace HBz := bl_next HBz hb6; replace HHz := HHz.below hb6; clear hb6)
                  | (go_at_call 40; with_reducible refine (HZ.out.lh _ _ _ HHz.full).mono ?_; rintro e w7 ⟨rfl, hb7⟩; replace HBz := bl_next HBz hb7; replace HHz := HHz.below hb7; clear hb7)
                  | (go_at_call 41; with_reducible refine (HZ.out.w6 _ (HE.out.below HBz)).mono ?_; rintro e w8 ⟨rfl, hb8⟩; replace HBz := bl_next HBz hb8; replace HHz := HHz.below hb8; clear hb8)
                  | (go_at_call 41; with_reducible refine (HZ.out.wa _ (HE.out.below HBz)).mono ?_; rintro e w8 ⟨rfl, hb8⟩; replace HBz := bl_next HBz hb8; replace HHz := HHz.below hb8; clear hb8)
                  | (go_at_call 41; with_reducible refine (HZ.out.wb _ (HE.out.below HBz)).mono ?_; rintro e w8 ⟨rfl, hb8⟩; replace HBz := bl_next HBz hb8; replace HHz := HHz.below hb8; clear hb8)
                  | (go_at_call 41; with_reducible refine (HZ.out.wc _ (HE.out.below HBz)).mono ?_; rintro e w8 ⟨rfl, hb8⟩; replace HBz := bl_next HBz hb8; replace HHz := HHz.below hb8; clear hb8)
                  | (go_at_call 11; refine (known_any _ (HE.out.below HBz)).mono ?_; rintro e wk ⟨rfl, hbk⟩))
                go_ret
                exact ⟨rfl, bl_next HBz hbk⟩
end Go.Proofs.YtgplaeopcejmoaaGreatDoor
