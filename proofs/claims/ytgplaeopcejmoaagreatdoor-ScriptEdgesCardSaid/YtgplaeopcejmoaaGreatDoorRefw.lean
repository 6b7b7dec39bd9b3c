/- The walks of the document's Hex at one byte, and Word. -/
import Derived.Test.YtgplaeopcejmoaaGreatDoorUnword
namespace Go.Proofs.YtgplaeopcejmoaaGreatDoor
open Go.RowKit

theorem quiet_l {P : Program} {f : FuncId} {args : Array Value} {w : World} {a n : Nat} {v : Value} (h : Calls P f args (w.drewN (a + n)) fun e w' => e = .returned v ∧ w.drewN (a + n) = w') :
    Calls P f args (w.drewN (a + n)) fun e w'' => e = .returned v ∧ ∃ m, w'' = w.drewN (a + m) := h.mono fun _ _ ⟨he, hm⟩ => ⟨he, n, hm.symm⟩
theorem quiet_l0 {P : Program} {f : FuncId} {args : Array Value} {w : World} {n : Nat} {v : Value} (h : Calls P f args (w.drewN n) fun e w' => e = .returned v ∧ w.drewN n = w') :
    Calls P f args (w.drewN n) fun e w'' => e = .returned v ∧ ∃ m, w'' = w.drewN m := h.mono fun _ _ ⟨he, hm⟩ => ⟨he, n, hm.symm⟩
theorem letter_cut {n : Nat} (h : n < 16) : (⟨#[48, 49, 50, 51, 52, 53, 54, 55, 56, 57, 97, 98, 99, 100, 101, 102]⟩ : ByteArray).extract n (n + 1) = ⟨#[hexd n]⟩ := by
  have : ∀ k : Fin 16, (⟨#[48, 49, 50, 51, 52, 53, 54, 55, 56, 57, 97, 98, 99, 100, 101, 102]⟩ : ByteArray).extract k.val (k.val + 1) = ⟨#[hexd k.val]⟩ := by decide +kernel
  exact this ⟨n, h⟩
theorem letters_any (w : World) : Calls Tryz.prog 103 #[] w fun e w' => e = .returned (.string ⟨#[48, 49, 50, 51, 52, 53, 54, 55, 56, 57, 97, 98, 99, 100, 101, 102]⟩) ∧ w = w' := by
  go_enter Tryz.func103, Tryz.ntmps103
  go_wp2
  go_ret
  exact ⟨rfl, rfl⟩

set_option maxRecDepth 100000 in
theorem refhex_one (ad : Addr) (c : UInt8) (k : Nat) (w : World) (hc : w.cell? ad = some (.int .u8 c.toNat)) :
    Calls Tryz.prog 88 #[.slice (some ad) 1 k] w fun e w' => e = .returned (.string ⟨#[hexd (c.toNat / 16), hexd (c.toNat % 16)]⟩) ∧ Below w.heap.size w w' := by
  go_enter Tryz.func88, Tryz.ntmps88
  go_wp2
  go_loopw [3, 4] (fun v i wr => Below w.heap.size w wr ∧ ((v = .string ⟨#[]⟩ ∧ i = .int .i64 0) ∨ (v = .string ⟨#[hexd (c.toNat / 16), hexd (c.toNat % 16)]⟩ ∧ i = .int .i64 1))) (fun _ i _ => 1 - (intOf i).toNat)
  case atStart => exact ⟨Below.refl _ _, .inl ⟨rfl, rfl⟩⟩
  case round =>
    obtain ⟨hb, h⟩ := hrel
    have hc1 : wr.cell? ad = some (.int .u8 c.toNat) := (hb.cell (cell_lt hc)).trans hc
    rcases h with ⟨rfl, rfl⟩ | ⟨rfl, rfl⟩
    · go_wp2
      go_quiet (fail)
      have hq : IntKind.i64.wrap ((IntKind.i64.wrap (c.toNat : Int)).tdiv 16) = ((c.toNat / 16 : Nat) : Int) := by
        have := c.toNat_lt
        have e1 : IntKind.i64.wrap (c.toNat : Int) = c.toNat := by rw [IntKind.wrap_i64]; omega
        rw [e1, Int.tdiv_eq_ediv_of_nonneg (by omega), IntKind.wrap_i64]; omega
      have hr : (IntKind.i64.wrap (c.toNat : Int)).tmod 16 = ((c.toNat % 16 : Nat) : Int) := by
        have := c.toNat_lt
        have e1 : IntKind.i64.wrap (c.toNat : Int) = c.toNat := by rw [IntKind.wrap_i64]; omega
        rw [e1, Int.tmod_eq_emod_of_nonneg (by omega)]; omega
      rw [hq, hr]
      have hlo : c.toNat % 16 < 16 := by omega
      have hhi : c.toNat / 16 < 16 := by have := c.toNat_lt; omega
      generalize hd1 : hexd (c.toNat / 16) = d1
      generalize hd2 : hexd (c.toNat % 16) = d2
      have x1 := letter_cut hhi
      have x2 := letter_cut hlo
      rw [hd1] at x1
      rw [hd2] at x2
      have HD1 := Lib.hid hd1
      have HD2 := Lib.hid hd2
      clear hd1 hd2 hq hr
      generalize e1 : c.toNat / 16 = hi at hhi x1 ⊢
      generalize e2 : c.toNat % 16 = lo at hlo x2 ⊢
      clear e1 e2
      have b1 : IntKind.i64.wrap ((hi : Int) + 1) = (hi : Int) + 1 := by rw [IntKind.wrap_i64]; omega
      have b2 : IntKind.i64.wrap ((lo : Int) + 1) = (lo : Int) + 1 := by rw [IntKind.wrap_i64]; omega
      have b3 : 0 ≤ (hi : Int) ∧ (hi : Int) ≤ hi + 1 ∧ (hi : Int) + 1 ≤ 16 := by omega
      have b4 : 0 ≤ (lo : Int) ∧ (lo : Int) ≤ lo + 1 ∧ (lo : Int) + 1 ≤ 16 := by omega
      go_wp2
      go_quiet ((go_at_call 103; first | exact quiet_l (letters_any _) | exact quiet_l0 (letters_any _)))
      go_wp2
      refine ⟨⟨below_drewN hb _, .inr ⟨?_, by go_num⟩⟩, by simp [intOf]⟩
      rw [HD1.out, HD2.out]; rfl
    · go_wp2
      go_ret
      exact ⟨rfl, hb⟩

theorem one_cell {c : UInt8} {j : Nat} {u : Value} (h : (cellsB [c])[j]? = some u) : j = 0 ∧ u = .int .u8 (c.toNat : Int) := by
  cases j with
  | zero => exact ⟨rfl, by simpa [cellsB] using h.symm⟩
  | succ j => simp [cellsB] at h
theorem grown_cell {wr W W' : World} {base : Nat} {v : Value} {l : Bs} (ho : OwnB wr base v l) (h : W.grownBy W' v.ownBlock) {p : Addr} (h1 : wr.heap.size ≤ p.block) (h2 : p.block < W.heap.size) : W'.cell? p = W.cell? p :=
  World.cell?_of_block (h.block p.block h2 (fun e => by have := (ho.lt _ e.symm).2; omega))
theorem plain_yes {c : UInt8} (h : plainB c = true) : 33 ≤ (c.toNat : Int) ∧ (c.toNat : Int) ≤ 126 ∧ ((c.toNat : Int) != 37) = true := by
  rw [plainB_nat] at h
  simp only [Bool.and_eq_true, decide_eq_true_eq] at h
  exact ⟨h.1.1, h.1.2, h.2⟩
theorem plain_no {c : UInt8} (h : plainB c = false) : (c.toNat : Int) < 33 ∨ (33 ≤ (c.toNat : Int) ∧ 126 < (c.toNat : Int)) ∨ (33 ≤ (c.toNat : Int) ∧ (c.toNat : Int) ≤ 126 ∧ ((c.toNat : Int) != 37) = false) := by
  rw [plainB_nat] at h
  by_cases h1 : 33 ≤ (c.toNat : Int)
  · by_cases h2 : (c.toNat : Int) ≤ 126
    · rw [decide_eq_true h1, decide_eq_true h2] at h
      exact .inr (.inr ⟨h1, h2, by simpa using h⟩)
    · exact .inr (.inl ⟨h1, by omega⟩)
  · exact .inl (by omega)

set_option maxRecDepth 100000 in
set_option maxHeartbeats 1000000 in
theorem refword_any (s : ByteArray) (hs : s.size ≤ 300000) (w : World) :
    Calls Tryz.prog 46 #[.string s] w fun e w' => e = .returned (.string (txt (wordL (bs s)))) ∧ Below w.heap.size w w' := by
  by_cases h0 : s.size = 0
  · have he : bs s = [] := List.eq_nil_of_length_eq_zero (by rw [bs_length, h0])
    have hsz : ((s.size : Int) == 0) = true := by rw [h0]; rfl
    clear h0
    go_enter Tryz.func46, Tryz.ntmps46
    go_wp2
    go_ret
    refine ⟨ret_str ?_, Below.refl _ _⟩
    rw [he]; rfl
  · have hsz : ((s.size : Int) == 0) = false := beq_eq_false_iff_ne.2 (by omega)
    have hne : bs s ≠ [] := fun e => h0 (by rw [← bs_length, e]; rfl)
    have HN := Lib.hid hne; clear hne h0
    go_enter Tryz.func46, Tryz.ntmps46
    go_wp2
    go_loopw [3, 4] (fun v i wr => ∃ k : Nat, k ≤ s.size ∧ i = .int .i64 k ∧ OwnB wr w.heap.size v (((bs s).take k).flatMap wordB) ∧ Below w.heap.size w wr) (fun _ i _ => s.size - (intOf i).toNat)
    case atStart => exact ⟨0, by omega, rfl, OwnB.nil _ _, Below.refl _ _⟩
    case round =>
      obtain ⟨k, hk, rfl, hown, hb⟩ := hrel
      have HO := Lib.hid hown; clear hown
      have hlen := flat_take_len (bs s) k
      rw [bs_length] at hlen
      have hbs := hb.size
      by_cases hlt : k < s.size
      · have hc := bs_get hlt
        obtain ⟨c, hcs⟩ : ∃ c : UInt8, s[k] = c := ⟨_, rfl⟩
        rw [hcs] at hc
        have hci : ∀ h, s[k]'h = c := fun _ => hcs
        clear hcs
        have hst := take_succ_flat wordB hc
        have HST := Lib.hid hst; clear hst hc
        generalize hL : ((bs s).take k).flatMap wordB = L at *
        have HL := Lib.hid hL; clear hL
        cases hp : plainB c
        · have hwb : wordB c = 37 :: [hexd (c.toNat / 16), hexd (c.toNat % 16)] := by unfold wordB; rw [hp]; rfl
          have HW := Lib.hid hwb; clear hwb
          have hcall : ∀ W g, W.cell? ⟨g, 0, none⟩ = some (.int .u8 c.toNat) → Calls Tryz.prog 88 #[.slice (some ⟨g, 0, none⟩) 1 1] W fun e w' => ∃ v, e = .returned v ∧ (v = .string ⟨#[hexd (c.toNat / 16), hexd (c.toNat % 16)]⟩ ∧ Below W.heap.size W w') :=
            fun W g h => (refhex_one _ c 1 W h).mono fun _ _ ⟨he, hb⟩ => ⟨_, he, rfl, hb⟩
          rcases plain_no hp with h1 | ⟨h1, h2⟩ | ⟨h1, h2, h3⟩
          all_goals clear hp
          all_goals go_wp2
          all_goals
            go_region_law (first
              | (refine step_append_b rfl (.tmp 36) (.tmp 37) rfl w.heap.size u3 L _ 1 1 [37] (by simp [Act.eval]) (by simp [Act.eval]; rfl) ?own (by omega) ?base rfl (by omega) ?news ?_
                 case own => first
                   | exact World.ownsRow.alloc HO.out _
                   | exact World.ownsRow.alloc (World.ownsRow.alloc HO.out _) _
                   | exact OwnB.below (World.ownsRow.alloc (World.ownsRow.alloc HO.out _) _) hbH
                   | exact World.ownsRow.alloc (OwnB.below (World.ownsRow.alloc HO.out _) hbH) _
                 case base => first
                   | (have := hbH.size; simp at this ⊢; omega)
                   | (simp; omega)
                 case news =>
                   intro j u hu
                   obtain ⟨rfl, rfl⟩ := one_cell hu
                   rw [Addr.add_lit]
                   first
                   | (go_simp; done)
                   | (refine (hbH.cell (by simp; try omega)).trans ?_; go_simp; done)
                 intro va wa hownA hgrA
                 try replace hgrA := grown_undrew hgrA)
              | (refine step_call1 rfl 88 (.tmp 42) _ rfl (enters_of Tryz.func88 (by kernel_rfl) rfl) _ (by simp [Act.eval]; rfl) (hcall _ _ ?cell) ?_
                 case cell => first
                   | (go_simp; done)
                   | (refine (grown_cell HO.out hgrA (by simp) (by simp; try omega)).trans ?_; go_simp; done)
                 rintro vh wh ⟨rfl, hbH⟩
                 try replace hbH := below_undrew hbH)
              | (refine step_append_bs rfl (.tmp 38) (.tmp 43) rfl w.heap.size va (L ++ [37]) ⟨#[hexd (c.toNat / 16), hexd (c.toNat % 16)]⟩ (by simp [Act.eval]) (by simp [Act.eval]) ?own2 (by simp; omega) ?base2 (by simp [ByteArray.size]) ?_
                 case own2 => first
                   | exact hownA
                   | exact OwnB.below hownA hbH
                   | exact OwnB.below (World.ownsRow.alloc hownA _) hbH
                 case base2 => (have h1 := hbH.size; have h2 := hgrA.size; simp at h1 h2 ⊢; omega)
                 intro vz wz hownZ hgrZ
                 try replace hgrZ := grown_undrew hgrZ))
          all_goals
            have z1 := hgrA.size
            have z2 := hbH.size
            simp only [World.size_alloc] at z1 z2
            have hbz : Below w.heap.size w wz := by
              first
              | exact (((((hb.alloc hbs _).grown hgrA (by simp; omega) (fun z hz => (HO.out.lt z hz).1)).alloc (by omega) _).trans (hbH.mono (by simp; omega))).grown hgrZ (by omega) (fun z hz => (hownA.lt z hz).1))
              | exact (((((hb.alloc hbs _).alloc (by simp; omega) _).grown hgrA (by simp; omega) (fun z hz => (HO.out.lt z hz).1)).trans (hbH.mono (by omega))).grown hgrZ (by omega) (fun z hz => (hownA.lt z hz).1))
              | exact (((((hb.alloc hbs _).alloc (by simp; omega) _).trans (hbH.mono (by simp; omega))).grown hgrA (by omega) (fun z hz => (HO.out.lt z hz).1)).grown hgrZ (by omega) (fun z hz => (hownA.lt z hz).1))
              | exact (((((hb.alloc hbs _).trans (hbH.mono (by simp; omega))).alloc (by omega) _).grown hgrA (by simp; omega) (fun z hz => (HO.out.lt z hz).1)).grown hgrZ (by omega) (fun z hz => (hownA.lt z hz).1))
            clear z1 z2
            go_wp2
            go_roundw
            case rel => exact ⟨k + 1, by omega, by go_num, by rw [HST.out, HW.out]; simpa using hownZ, hbz⟩
            case measure => simp [intOf]; omega
        · have hwb : wordB c = [c] := by unfold wordB; rw [hp]; rfl
          have HW := Lib.hid hwb; clear hwb
          obtain ⟨h1, h2, h3⟩ := plain_yes hp
          clear hp
          go_wp2_with (at_builtin; refine wpList_append_b rfl (.tmp 30) (.tmp 34) rfl w.heap.size u3 L ⟨wr.heap.size, 0, none⟩ 1 1 [c] rfl rfl (by exact World.ownsRow.alloc HO.out _) (by omega) (by simp; omega) rfl (by omega) (by intro j u hu; exact news_lit wr [c] j u hu) ?_; intro v3 w3 hown3 hgr3)
          have hb3 : Below w.heap.size w w3 := ((hb.alloc hbs _)).grown hgr3 (by simp; omega) (fun z hz => (HO.out.lt z hz).1)
          go_roundw
          case rel => exact ⟨k + 1, by omega, by go_num, by rw [HST.out, HW.out]; exact hown3, hb3⟩
          case measure => simp [intOf]; omega
      · obtain rfl : k = s.size := by omega
        have hst : ((bs s).take s.size).flatMap wordB = wordL (bs s) := by
          rw [← bs_length, List.take_length]
          unfold wordL
          rw [if_neg HN.out]
        have hcv := conv_own HO.out
        rw [hst] at hcv
        go_wp2
        go_ret
        exact ⟨rfl, hb⟩
end Go.Proofs.YtgplaeopcejmoaaGreatDoor
