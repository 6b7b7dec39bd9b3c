/- The walk of opOf: what a line's words are as an operation. -/
import Derived.Test.YtgplaeopcejmoaaGreatDoorOpofa
namespace Go.Proofs.YtgplaeopcejmoaaGreatDoor
open Go.RowKit Go.Shelf

attribute [local go_sem] Oper.semAt_some

def noN (x : ByteArray) (pre : List (Fin 12)) : Prop := ∀ z ∈ pre, ((nmAt z).toList == x.toList) = false
def isN (x : ByteArray) (y : Fin 12) : Prop := ((nmAt y).toList == x.toList) = true
theorem lnat_x (b g : Nat) (s : LS) (w : World) (h : LineAt w b g s.1 s.2) (hbe : ∀ w', w.grownBy w' (some b) → Env w') :
    Calls Tryz.prog 96 #[.pointer (some ⟨b, 0, none⟩)] w fun e w' => ∃ (r : Nat) (d : Bool), natV (hd s) = (r, d) ∧ e = .returned (.int .u64 r) ∧ LineAt w' b g (adv s d).1 (adv s d).2 ∧ w.grownBy w' (some b) :=
  (lnat_any b g s.1 s.2 w h hbe).mono fun _ _ ⟨h1, h2, h3⟩ => ⟨_, _, rfl, h1, h2, h3⟩
theorem ltext_x (b g : Nat) (s : LS) (w : World) (h : LineAt w b g s.1 s.2) :
    Calls Tryz.prog 97 #[.pointer (some ⟨b, 0, none⟩)] w fun e w' => ∃ (r : ByteArray) (d : Bool), textV (hd s) = (r, d) ∧ e = .returned (.string r) ∧ LineAt w' b g (adv s d).1 (adv s d).2 ∧ w.grownBy w' (some b) :=
  (ltext_any b g s.1 s.2 w h).mono fun _ _ ⟨h1, h2, h3⟩ => ⟨_, _, rfl, h1, h2, h3⟩
theorem lint_x (b g : Nat) (s : LS) (w : World) (h : LineAt w b g s.1 s.2) (hbe : ∀ w', w.grownBy w' (some b) → Env w') :
    Calls Tryz.prog 69 #[.pointer (some ⟨b, 0, none⟩)] w fun e w' => ∃ (r : Int) (d : Bool), intV (hd s) = (r, d) ∧ e = .returned (.int .i64 r) ∧ LineAt w' b g (adv s d).1 (adv s d).2 ∧ w.grownBy w' (some b) :=
  (lint_any b g s.1 s.2 w h hbe).mono fun _ _ ⟨h1, h2, h3⟩ => ⟨_, _, rfl, h1, h2, h3⟩
theorem infoOp : (Tryz.prog.info? 34).map (·.size) = some 7 := by kernel_rfl
theorem opCells_one (o : Opr) : (opCells o).toArray.all (·.oneCell') = true := by simp [opCells, Value.oneCell']
theorem Gan.fin {w W : World} {b g : Nat} {s : LS} {rb ob : Nat} {o : Opr} {m : Int} {nb D : Nat} (h : Gan w W b g s rb ob o m nb D) (x : Obj) :
    (W.setRow rb (opCells o).toArray).heap[D]? = some (.deferred (some [])) ∧ ((W.setRow rb (opCells o).toArray).putObj D x).heap[rb]? = some (.cells (opCells o).toArray 34 (0, 0)) ∧
      LineAt ((W.setRow rb (opCells o).toArray).putObj D x) b g s.1 s.2 ∧ w.grownBy ((W.setRow rb (opCells o).toArray).putObj D x) (some b) := by
  have n2 : D ≠ rb := by
    intro e
    have h1 := h.dfr
    rw [e] at h1
    have := (show W.heap[rb]? = _ from h.gat.res).symm.trans h1
    simp at this
  have h3 := h.gat.bB; have h4 := h.gat.rbB; have h5 := h.dB; have h6 := h.gat.gB
  have hD : (W.setRow rb (opCells o).toArray).heap[D]? = some (.deferred (some [])) := (setRow_other W rb D _ n2).trans h.dfr
  have hR : Blk (W.setRow rb (opCells o).toArray) rb 34 (opCells o) := h.gat.res.set (opCells o)
  have hl : LineAt (W.setRow rb (opCells o).toArray) b g s.1 s.2 := h.gat.line.grown (grownBy_setRow W rb _) (fun e => by injection e with e; omega) (fun e => by injection e with e; omega)
  refine ⟨hD, (World.putObj_heap_other (Ne.symm n2)).trans hR, hl.grown (grownBy_putObj' _ D x) (fun e => by injection e with e; omega) (fun e => by injection e with e; omega), ?_⟩
  exact grownBy_turn (grownBy_turn h.gat.grown (grownBy_setRow W rb _) (fun i e => by injection e with e; omega)) (grownBy_putObj' _ D x) (fun i e => by injection e with e; omega)
theorem noN_nil (x : ByteArray) : noN x [] := by intro z h; cases h
theorem noN_snoc {x : ByteArray} {pre : List (Fin 12)} {y : Fin 12} (h : noN x pre) (hy : ((nmAt y).toList == x.toList) = false) : noN x (pre ++ [y]) := fun z hz => by
  rcases List.mem_append.1 hz with hz | hz
  · exact h z hz
  · rw [List.mem_singleton.1 hz]; exact hy
/-- a name was found -/
def Found (w : World) (b g : Nat) (s : LS) (rb ob : Nat) (x : ByteArray) (pre : List (Fin 12)) (W : World) : Prop :=
  ∃ y pre', Gat w W b g s rb ob { opZero with kind := 1 + (y.val : Int) } ∧ pre = pre' ++ [y] ∧ noN x pre' ∧ isN x y

set_option maxRecDepth 100000 in
set_option maxHeartbeats 8000000 in
theorem opof_any (b g : Nat) (ws : List ByteArray) (wr : Bool) (w : World) (hl0 : LineAt w b g ws wr) (hbe : ∀ w', w.grownBy w' (some b) → Env w') :
    Calls Tryz.prog 63 #[.pointer (some ⟨b, 0, none⟩)] w fun e w' => e = .returned (opV (opOfS (ws, wr)).1) ∧ LineAt w' b g (opOfS (ws, wr)).2.1 (opOfS (ws, wr)).2.2 ∧ w.grownBy w' (some b) := by
  have hb0 := hl0.lt
  have hz : ∀ W, (zeroValue 3).run Tryz.prog W = .ok (.int .i64 0) W := fun W => by kernel_rfl
  have hlw : LineAt ((w.alloc (.cells (opCells opZero).toArray 34)).alloc (.cells (opCells opZero).toArray 34)) b g ws wr := (hl0.below ((Below.refl _ _).alloc (Nat.le_refl _) _)).below ((Below.refl _ _).alloc (Nat.le_refl _) _)
  have hg0 : Gat w ((w.alloc (.cells (opCells opZero).toArray 34)).alloc (.cells (opCells opZero).toArray 34)) b g (ws, wr) w.heap.size (w.heap.size + 1) opZero :=
    ⟨grownBy_trans (World.grownBy_alloc w _ _) (World.grownBy_alloc _ _ _), hlw, (Blk.new w 34 (opCells opZero)).alloc _, (by have := Blk.new (w.alloc (.cells (opCells opZero).toArray 34)) 34 (opCells opZero); simpa using this), Nat.le_refl _, by omega, by omega, hb0.1, hb0.2⟩
  have HG0 := Lib.hid hg0; clear hg0
  obtain ⟨x, hx⟩ : ∃ x, ws.headD ⟨#[]⟩ = x := ⟨_, rfl⟩
  have HX := Lib.hid hx; clear hx
  refine callsIn_wide.1 (callsIn_of_wp_marks (n := 9) Tryz.func63 rfl trivial ?_ rfl)
  refine wpIn_wide.2 ?_
  simp only [Tryz.ntmps63, List.size_toArray, List.length_cons, List.length_nil, Nat.reduceAdd, Nat.reduceSub, Array.replicate_succ, Array.replicate_zero, List.push_toArray, List.append_toArray, List.nil_append, List.cons_append]
  go_wp2_with (first
    | (go_at_call 67; refine (lword_any b g ws wr _ hlw).mono ?_; rintro e w1 ⟨rfl, hl1, hg1⟩; rw [HX.out])
    | (go_at_call 51; refine (names_any _).mono ?_; rintro e w2 ⟨rfl, rfl⟩))
  have hgat : Gat w w1 b g (adv (ws, wr) false) w.heap.size (w.heap.size + 1) opZero := HG0.out.took (s' := adv (ws, wr) false) (by simpa [adv] using hl1) hg1
  have hwb := Blk.new w1 9 [.string x]
  have hlt1 : w.heap.size + 1 < w1.heap.size := hgat.box.lt
  refine wp_names0 rfl rfl
    (fun pre W => Gat w W b g (adv (ws, wr) false) w.heap.size (w.heap.size + 1) opZero ∧ Blk W w1.heap.size 9 [.string x] ∧ noN x pre)
    (Found w b g (adv (ws, wr) false) w.heap.size (w.heap.size + 1) x)
    ?hI ?hFi ?h0 ?a1 ?assign ?body (fun W => Gat w W b g (adv (ws, wr) false) w.heap.size (w.heap.size + 1) { opZero with kind := kindOf x }) ?hall ?hpart ?hend
  case hI => exact OwnFrom.and (ownFrom_gat (by simp; omega)) (Own.from (fun s A B row hs hg hr => ⟨own_blk _ _ _ s A B row hs.1 hg hr, hs.2⟩) _)
  case hFi =>
    intro s A B row hs hg hr
    obtain ⟨y, pre', h1, h2⟩ := hs
    exact ⟨y, pre', ownFrom_gat (B := (w1.alloc (.cells #[.string x] 9)).heap.size) (by simp; omega) s A B row h1 hg hr, h2⟩
  case h0 => exact ⟨hgat.alloc _, hwb, noN_nil x⟩
  case assign =>
    intro l y W K hK
    gi_wp2
    exact hK
  case body =>
    rintro l pre y W ⟨hx1, hx2, hx3⟩
    have cw : W.cell? ⟨w1.heap.size, 0, none⟩ = some (.string x) := hx2.cell 0
    have co : W.cell? ⟨w.heap.size + 1, 0, none⟩ = some (.int .i64 0) := hx1.box.cell 0
    have fo := hx1.box.frozen 0
    cases hk : (nmAt y).toList == x.toList
    · gi_wp2
      exact ⟨KeepsOthers.refl _, Below.refl _ _, hx1, hx2, noN_snoc hx3 hk⟩
    · gi_wp2
      exact ⟨KeepsOthers.setCell _ _ _, rfl, y, pre, hx1.field 0 (.int .i64 (1 + (y.val : Int))) { opZero with kind := 1 + (y.val : Int) } (by omega) rfl, rfl, hx3, hk⟩
  case hall =>
    rintro W ⟨h1, _, h3⟩
    rw [kindOf_none h3]
    exact h1
  case hpart =>
    rintro pre W hp ⟨y, pre', h1, rfl, h3, h4⟩
    rw [kindOf_some hp h3 h4]
    exact h1
  case hend =>
    intro D W hD hG hK
    clear hgat hwb hl1 hg1 hlw
    obtain ⟨kd, hkd⟩ : ∃ kd, kindOf x = kd := ⟨_, rfl⟩
    rw [hkd] at hG
    obtain ⟨m, hm⟩ : ∃ m, (getI namedL kd).getD 0 = m := ⟨_, rfl⟩
    have HG := Lib.hid hm; clear hm
    have HKD := Lib.hid hkd; clear hkd
    have cW : W.cell? ⟨w.heap.size + 1, 0, none⟩ = some (.int .i64 kd) := hG.box.cell 0
    have hWlt : w.heap.size + 1 < W.heap.size := hG.box.lt
    have HP := Lib.hid hG; clear hG
    have hDl : D < W.heap.size := (Array.getElem?_eq_some_iff.1 hK).1
    have hDb : w.heap.size ≤ D := by simp at hD; omega
    have HD := Lib.hid hK; clear hK
    go_wp2
    go_cut [7] from 19 to 22 (fun p wx => ∃ nb, p = .pointer (some ⟨nb, 0, none⟩) ∧ Gan w wx b g (adv (ws, wr) false) w.heap.size (w.heap.size + 1) { opZero with kind := kd } m nb D)
    case first =>
      refine Code.wp_mono (Q := Exit.then ?KK (fun _ _ _ => False)) ?mono ?main
      case mono =>
        intro e a w h
        cases e with
        | normal => exact h
        | _ => exact h.elim
      go_region_with (go_at_call 52; refine (named_any _).mono ?_; rintro e w3 ⟨gm, rfl, hm, hb3⟩
                      try replace hb3 := below_undrew hb3
                      have hP3 : Gat w w3 b g (adv (ws, wr) false) w.heap.size (w.heap.size + 1) { opZero with kind := kd } := by
                        first
                        | exact HP.out.next hb3
                        | exact (HP.out.alloc _).next hb3
                      have hD3 : w3.heap[D]? = some (.deferred (some [])) := by
                        first
                        | exact (hb3.block D hDl).trans HD.out
                        | exact (hb3.block D (by simp; omega)).trans ((Below.heap_alloc _ _ _ hDl).trans HD.out)
                      have c0 : w3.cell? ⟨w.heap.size + 1, 0, none⟩ = some (.int .i64 kd) := hP3.box.cell 0
                      have hlt3 : w.heap.size + 1 < w3.heap.size := hP3.box.lt
                      try (have hN : Blk w3 W.heap.size 3 [.int .i64 0] := (show Blk _ _ _ _ from (by have := Blk.new W 3 [.int .i64 0]; simpa using this.below hb3 (by simp)))
                           have cN : w3.cell? ⟨W.heap.size, 0, none⟩ = some (.int .i64 0) := hN.cell 0
                           have fN : w3.frozen? ⟨W.heap.size, 0, none⟩ = false := hN.frozen 0
                           have hNlt : W.heap.size < w3.heap.size := hN.lt
                           have HN1 := Lib.hid hN; clear hN)
                      have HD3 := Lib.hid hD3; clear hD3
                      have HP3 := Lib.hid hP3; clear hP3
                      have hlk := run_lookup_i0 Tryz.underlying100 Tryz.underlying31 hm kd (hz _); rw [HG.out] at hlk
                      have hlk2 := fun o => run_lookup_i0 Tryz.underlying100 Tryz.underlying31 (MapI.alloc hm o) kd (hz _)
                      rw [HG.out] at hlk2)
      all_goals
        go_wp2_with fail
        go_meet
        first
        | exact ⟨_, rfl, HP3.out.alloc _, Blk.new w3 3 [.int .i64 m], by omega, (Below.heap_alloc _ _ _ (Array.getElem?_eq_some_iff.1 HD3.out).1).trans HD3.out, hDb⟩
        | exact ⟨_, rfl, HP3.out.turn (grown_setCell _ _ _ _) (fun i e => by injection e with e; omega) (fun e => by injection e with e; omega) (fun e => by injection e with e; omega), (by have := HN1.out.setCell 0 (.int .i64 m) (by simp); simpa using this), by omega, (Below.heap_setCell _ _ _ _ (show D ≠ W.heap.size by omega)).trans HD3.out, hDb⟩
    case rest =>
      obtain ⟨nb, rfl, HA⟩ := hcut
      have hmm : m = 0 ∨ m = 5 ∨ m = 13 ∨ m = 21 ∨ m = 1 ∨ m = 33 ∨ m = 34 := by
        have := HG.out
        cases hg : getI namedL kd with
        | none => rw [hg] at this; exact .inl this.symm
        | some m' => rw [hg] at this; rw [← show m' = m from this]; exact named_mask hg
      obtain ⟨s1, hs1⟩ : ∃ s1, adv (ws, wr) false = s1 := ⟨_, rfl⟩
      have HS1 := Lib.hid hs1
      rw [hs1] at HA
      clear hs1 cW hWlt hDl hz
      have hE : ∀ {s : LS} {o : Opr} {W W' : World}, Gan w W b g s w.heap.size (w.heap.size + 1) o m nb D → W.grownBy W' (some b) → Env W' := fun h k => hbe _ (grownBy_trans h.gat.grown k)
      have cN : wc.cell? ⟨nb, 0, none⟩ = some (.int .i64 m) := HA.nam.cell 0
      rcases hmm with rfl | rfl | rfl | rfl | rfl | rfl | rfl
      · go_wp2_with (first
          | (go_at_call 95; ((with_reducible refine (has_at (f := 1) (b := false) h0_1 cN).mono ?_); rintro e wx ⟨rfl, rfl⟩))
          | (go_at_call 95; ((with_reducible refine (has_at (f := 2) (b := false) h0_2 cN).mono ?_); rintro e wx ⟨rfl, rfl⟩))
          | (go_at_call 95; ((with_reducible refine (has_at (f := 4) (b := false) h0_4 cN).mono ?_); rintro e wx ⟨rfl, rfl⟩))
          | (go_at_call 95; ((with_reducible refine (has_at (f := 8) (b := false) h0_8 cN).mono ?_); rintro e wx ⟨rfl, rfl⟩))
          | (go_at_call 95; ((with_reducible refine (has_at (f := 16) (b := false) h0_16 cN).mono ?_); rintro e wx ⟨rfl, rfl⟩))
          | (go_at_call 95; ((with_reducible refine (has_at (f := 32) (b := false) h0_32 cN).mono ?_); rintro e wx ⟨rfl, rfl⟩))
          | (refine wpList_load_row rfl 34 _ rfl (w.heap.size + 1) rfl 34 _ (0, 0) _ HA.gat.box Tryz.underlying34 rfl infoOp ?_)
          | (refine wpList_store_row rfl 34 _ _ rfl w.heap.size _ rfl rfl 34 _ HA.gat.res infoOp rfl (opCells_one _) ?_))
        obtain ⟨h1, h2, h3, h4⟩ := HA.fin (.deferred none)
        refine ⟨by simp, .inl ⟨_, _, rfl, run_takeDeferred h1, ?_⟩⟩
        refine ⟨_, results_cell_row rfl _ _ w.heap.size 34 _ (0, 0) _ rfl h2 Tryz.underlying34 rfl infoOp, ?_⟩
        have ho : opOfS (ws, wr) = ({ opZero with kind := kd }, s1) := by
          unfold opOfS
          rw [show hd (ws, wr) = x from HX.out, HKD.out, HG.out, HS1.out]
          simp [opOfM, st1, st2, st4, st8, st16, st32, h0_1, h0_2, h0_4, h0_8, h0_16, h0_32]
        rw [ho]
        exact ⟨rfl, h3, h4⟩
      · go_wp2_with (first
          | (go_at_call 95; ((with_reducible refine (has_at (f := 1) (b := true) h5_1 cN).mono ?_); rintro e wx ⟨rfl, rfl⟩))
          | (go_at_call 95; ((with_reducible refine (has_at (f := 2) (b := false) h5_2 cN).mono ?_); rintro e wx ⟨rfl, rfl⟩))
          | (go_at_call 95; ((with_reducible refine (has_at (f := 4) (b := true) h5_4 cN).mono ?_); rintro e wx ⟨rfl, rfl⟩))
          | (go_at_call 95; ((with_reducible refine (has_at (f := 8) (b := false) h5_8 cN).mono ?_); rintro e wx ⟨rfl, rfl⟩))
          | (go_at_call 95; ((with_reducible refine (has_at (f := 16) (b := false) h5_16 cN).mono ?_); rintro e wx ⟨rfl, rfl⟩))
          | (go_at_call 95; ((with_reducible refine (has_at (f := 32) (b := false) h5_32 cN).mono ?_); rintro e wx ⟨rfl, rfl⟩))
          | (go_at_call 96; ((with_reducible refine (lnat_x b g (s1) _ HA.gat.line (fun _ k => hE HA k)).mono ?_); rintro e wx ⟨r1, d1, hr1, rfl, hlx, hgx⟩; replace HA := HA.took (s' := adv (s1) d1) hlx hgx; clear hlx hgx cN; have HR1 := Lib.hid hr1; clear hr1; have cF1 : wx.cell? ⟨w.heap.size + 1, 1, none⟩ = _ := HA.gat.box.cell 1; have fF1 := HA.gat.box.frozen 1; replace HA := HA.field 1 (.int .u64 (r1 : Int)) { opZero with kind := kd, n := r1 } (by omega) rfl; have cN := HA.nam.cell 0))
          | (go_at_call 97; ((with_reducible refine (ltext_x b g (adv (s1) d1) _ HA.gat.line).mono ?_); rintro e wx ⟨r4, d4, hr4, rfl, hlx, hgx⟩; replace HA := HA.took (s' := adv (adv (s1) d1) d4) hlx hgx; clear hlx hgx cN; have HR4 := Lib.hid hr4; clear hr4; have cF4 : wx.cell? ⟨w.heap.size + 1, 2, none⟩ = _ := HA.gat.box.cell 2; have fF4 := HA.gat.box.frozen 2; replace HA := HA.field 2 (.string r4) { opZero with kind := kd, n := r1, key := r4 } (by omega) rfl; have cN := HA.nam.cell 0))
          | (refine wpList_load_row rfl 34 _ rfl (w.heap.size + 1) rfl 34 _ (0, 0) _ HA.gat.box Tryz.underlying34 rfl infoOp ?_)
          | (refine wpList_store_row rfl 34 _ _ rfl w.heap.size _ rfl rfl 34 _ HA.gat.res infoOp rfl (opCells_one _) ?_))
        obtain ⟨h1, h2, h3, h4⟩ := HA.fin (.deferred none)
        refine ⟨by simp, .inl ⟨_, _, rfl, run_takeDeferred h1, ?_⟩⟩
        refine ⟨_, results_cell_row rfl _ _ w.heap.size 34 _ (0, 0) _ rfl h2 Tryz.underlying34 rfl infoOp, ?_⟩
        have ho : opOfS (ws, wr) = ({ opZero with kind := kd, n := r1, key := r4 }, adv (adv (s1) d1) d4) := by
          unfold opOfS
          rw [show hd (ws, wr) = x from HX.out, HKD.out, HG.out, HS1.out]
          simp [opOfM, st1, st2, st4, st8, st16, st32, h5_1, h5_2, h5_4, h5_8, h5_16, h5_32, HR1.out, HR4.out]
        rw [ho]
        exact ⟨rfl, h3, h4⟩
      · go_wp2_with (first
          | (go_at_call 95; ((with_reducible refine (has_at (f := 1) (b := true) h13_1 cN).mono ?_); rintro e wx ⟨rfl, rfl⟩))
          | (go_at_call 95; ((with_reducible refine (has_at (f := 2) (b := false) h13_2 cN).mono ?_); rintro e wx ⟨rfl, rfl⟩))
          | (go_at_call 95; ((with_reducible refine (has_at (f := 4) (b := true) h13_4 cN).mono ?_); rintro e wx ⟨rfl, rfl⟩))
          | (go_at_call 95; ((with_reducible refine (has_at (f := 8) (b := true) h13_8 cN).mono ?_); rintro e wx ⟨rfl, rfl⟩))
          | (go_at_call 95; ((with_reducible refine (has_at (f := 16) (b := false) h13_16 cN).mono ?_); rintro e wx ⟨rfl, rfl⟩))
          | (go_at_call 95; ((with_reducible refine (has_at (f := 32) (b := false) h13_32 cN).mono ?_); rintro e wx ⟨rfl, rfl⟩))
          | (go_at_call 96; ((with_reducible refine (lnat_x b g (s1) _ HA.gat.line (fun _ k => hE HA k)).mono ?_); rintro e wx ⟨r1, d1, hr1, rfl, hlx, hgx⟩; replace HA := HA.took (s' := adv (s1) d1) hlx hgx; clear hlx hgx cN; have HR1 := Lib.hid hr1; clear hr1; have cF1 : wx.cell? ⟨w.heap.size + 1, 1, none⟩ = _ := HA.gat.box.cell 1; have fF1 := HA.gat.box.frozen 1; replace HA := HA.field 1 (.int .u64 (r1 : Int)) { opZero with kind := kd, n := r1 } (by omega) rfl; have cN := HA.nam.cell 0))
          | (go_at_call 97; ((with_reducible refine (ltext_x b g (adv (s1) d1) _ HA.gat.line).mono ?_); rintro e wx ⟨r4, d4, hr4, rfl, hlx, hgx⟩; replace HA := HA.took (s' := adv (adv (s1) d1) d4) hlx hgx; clear hlx hgx cN; have HR4 := Lib.hid hr4; clear hr4; have cF4 : wx.cell? ⟨w.heap.size + 1, 2, none⟩ = _ := HA.gat.box.cell 2; have fF4 := HA.gat.box.frozen 2; replace HA := HA.field 2 (.string r4) { opZero with kind := kd, n := r1, key := r4 } (by omega) rfl; have cN := HA.nam.cell 0))
          | (go_at_call 97; ((with_reducible refine (ltext_x b g (adv (adv (s1) d1) d4) _ HA.gat.line).mono ?_); rintro e wx ⟨r8, d8, hr8, rfl, hlx, hgx⟩; replace HA := HA.took (s' := adv (adv (adv (s1) d1) d4) d8) hlx hgx; clear hlx hgx cN; have HR8 := Lib.hid hr8; clear hr8; have cF8 : wx.cell? ⟨w.heap.size + 1, 3, none⟩ = _ := HA.gat.box.cell 3; have fF8 := HA.gat.box.frozen 3; replace HA := HA.field 3 (.string r8) { opZero with kind := kd, n := r1, key := r4, til := r8 } (by omega) rfl; have cN := HA.nam.cell 0))
          | (refine wpList_load_row rfl 34 _ rfl (w.heap.size + 1) rfl 34 _ (0, 0) _ HA.gat.box Tryz.underlying34 rfl infoOp ?_)
          | (refine wpList_store_row rfl 34 _ _ rfl w.heap.size _ rfl rfl 34 _ HA.gat.res infoOp rfl (opCells_one _) ?_))
        obtain ⟨h1, h2, h3, h4⟩ := HA.fin (.deferred none)
        refine ⟨by simp, .inl ⟨_, _, rfl, run_takeDeferred h1, ?_⟩⟩
        refine ⟨_, results_cell_row rfl _ _ w.heap.size 34 _ (0, 0) _ rfl h2 Tryz.underlying34 rfl infoOp, ?_⟩
        have ho : opOfS (ws, wr) = ({ opZero with kind := kd, n := r1, key := r4, til := r8 }, adv (adv (adv (s1) d1) d4) d8) := by
          unfold opOfS
          rw [show hd (ws, wr) = x from HX.out, HKD.out, HG.out, HS1.out]
          simp [opOfM, st1, st2, st4, st8, st16, st32, h13_1, h13_2, h13_4, h13_8, h13_16, h13_32, HR1.out, HR4.out, HR8.out]
        rw [ho]
        exact ⟨rfl, h3, h4⟩
      · go_wp2_with (first
          | (go_at_call 95; ((with_reducible refine (has_at (f := 1) (b := true) h21_1 cN).mono ?_); rintro e wx ⟨rfl, rfl⟩))
          | (go_at_call 95; ((with_reducible refine (has_at (f := 2) (b := false) h21_2 cN).mono ?_); rintro e wx ⟨rfl, rfl⟩))
          | (go_at_call 95; ((with_reducible refine (has_at (f := 4) (b := true) h21_4 cN).mono ?_); rintro e wx ⟨rfl, rfl⟩))
          | (go_at_call 95; ((with_reducible refine (has_at (f := 8) (b := false) h21_8 cN).mono ?_); rintro e wx ⟨rfl, rfl⟩))
          | (go_at_call 95; ((with_reducible refine (has_at (f := 16) (b := true) h21_16 cN).mono ?_); rintro e wx ⟨rfl, rfl⟩))
          | (go_at_call 95; ((with_reducible refine (has_at (f := 32) (b := false) h21_32 cN).mono ?_); rintro e wx ⟨rfl, rfl⟩))
          | (go_at_call 96; ((with_reducible refine (lnat_x b g (s1) _ HA.gat.line (fun _ k => hE HA k)).mono ?_); rintro e wx ⟨r1, d1, hr1, rfl, hlx, hgx⟩; replace HA := HA.took (s' := adv (s1) d1) hlx hgx; clear hlx hgx cN; have HR1 := Lib.hid hr1; clear hr1; have cF1 : wx.cell? ⟨w.heap.size + 1, 1, none⟩ = _ := HA.gat.box.cell 1; have fF1 := HA.gat.box.frozen 1; replace HA := HA.field 1 (.int .u64 (r1 : Int)) { opZero with kind := kd, n := r1 } (by omega) rfl; have cN := HA.nam.cell 0))
          | (go_at_call 97; ((with_reducible refine (ltext_x b g (adv (s1) d1) _ HA.gat.line).mono ?_); rintro e wx ⟨r4, d4, hr4, rfl, hlx, hgx⟩; replace HA := HA.took (s' := adv (adv (s1) d1) d4) hlx hgx; clear hlx hgx cN; have HR4 := Lib.hid hr4; clear hr4; have cF4 : wx.cell? ⟨w.heap.size + 1, 2, none⟩ = _ := HA.gat.box.cell 2; have fF4 := HA.gat.box.frozen 2; replace HA := HA.field 2 (.string r4) { opZero with kind := kd, n := r1, key := r4 } (by omega) rfl; have cN := HA.nam.cell 0))
          | (go_at_call 97; ((with_reducible refine (ltext_x b g (adv (adv (s1) d1) d4) _ HA.gat.line).mono ?_); rintro e wx ⟨r16, d16, hr16, rfl, hlx, hgx⟩; replace HA := HA.took (s' := adv (adv (adv (s1) d1) d4) d16) hlx hgx; clear hlx hgx cN; have HR16 := Lib.hid hr16; clear hr16; have cF16 : wx.cell? ⟨w.heap.size + 1, 4, none⟩ = _ := HA.gat.box.cell 4; have fF16 := HA.gat.box.frozen 4; replace HA := HA.field 4 (.string r16) { opZero with kind := kd, n := r1, key := r4, value := r16 } (by omega) rfl; have cN := HA.nam.cell 0))
          | (refine wpList_load_row rfl 34 _ rfl (w.heap.size + 1) rfl 34 _ (0, 0) _ HA.gat.box Tryz.underlying34 rfl infoOp ?_)
          | (refine wpList_store_row rfl 34 _ _ rfl w.heap.size _ rfl rfl 34 _ HA.gat.res infoOp rfl (opCells_one _) ?_))
        obtain ⟨h1, h2, h3, h4⟩ := HA.fin (.deferred none)
        refine ⟨by simp, .inl ⟨_, _, rfl, run_takeDeferred h1, ?_⟩⟩
        refine ⟨_, results_cell_row rfl _ _ w.heap.size 34 _ (0, 0) _ rfl h2 Tryz.underlying34 rfl infoOp, ?_⟩
        have ho : opOfS (ws, wr) = ({ opZero with kind := kd, n := r1, key := r4, value := r16 }, adv (adv (adv (s1) d1) d4) d16) := by
          unfold opOfS
          rw [show hd (ws, wr) = x from HX.out, HKD.out, HG.out, HS1.out]
          simp [opOfM, st1, st2, st4, st8, st16, st32, h21_1, h21_2, h21_4, h21_8, h21_16, h21_32, HR1.out, HR4.out, HR16.out]
        rw [ho]
        exact ⟨rfl, h3, h4⟩
      · go_wp2_with (first
          | (go_at_call 95; ((with_reducible refine (has_at (f := 1) (b := true) h1_1 cN).mono ?_); rintro e wx ⟨rfl, rfl⟩))
          | (go_at_call 95; ((with_reducible refine (has_at (f := 2) (b := false) h1_2 cN).mono ?_); rintro e wx ⟨rfl, rfl⟩))
          | (go_at_call 95; ((with_reducible refine (has_at (f := 4) (b := false) h1_4 cN).mono ?_); rintro e wx ⟨rfl, rfl⟩))
          | (go_at_call 95; ((with_reducible refine (has_at (f := 8) (b := false) h1_8 cN).mono ?_); rintro e wx ⟨rfl, rfl⟩))
          | (go_at_call 95; ((with_reducible refine (has_at (f := 16) (b := false) h1_16 cN).mono ?_); rintro e wx ⟨rfl, rfl⟩))
          | (go_at_call 95; ((with_reducible refine (has_at (f := 32) (b := false) h1_32 cN).mono ?_); rintro e wx ⟨rfl, rfl⟩))
          | (go_at_call 96; ((with_reducible refine (lnat_x b g (s1) _ HA.gat.line (fun _ k => hE HA k)).mono ?_); rintro e wx ⟨r1, d1, hr1, rfl, hlx, hgx⟩; replace HA := HA.took (s' := adv (s1) d1) hlx hgx; clear hlx hgx cN; have HR1 := Lib.hid hr1; clear hr1; have cF1 : wx.cell? ⟨w.heap.size + 1, 1, none⟩ = _ := HA.gat.box.cell 1; have fF1 := HA.gat.box.frozen 1; replace HA := HA.field 1 (.int .u64 (r1 : Int)) { opZero with kind := kd, n := r1 } (by omega) rfl; have cN := HA.nam.cell 0))
          | (refine wpList_load_row rfl 34 _ rfl (w.heap.size + 1) rfl 34 _ (0, 0) _ HA.gat.box Tryz.underlying34 rfl infoOp ?_)
          | (refine wpList_store_row rfl 34 _ _ rfl w.heap.size _ rfl rfl 34 _ HA.gat.res infoOp rfl (opCells_one _) ?_))
        obtain ⟨h1, h2, h3, h4⟩ := HA.fin (.deferred none)
        refine ⟨by simp, .inl ⟨_, _, rfl, run_takeDeferred h1, ?_⟩⟩
        refine ⟨_, results_cell_row rfl _ _ w.heap.size 34 _ (0, 0) _ rfl h2 Tryz.underlying34 rfl infoOp, ?_⟩
        have ho : opOfS (ws, wr) = ({ opZero with kind := kd, n := r1 }, adv (s1) d1) := by
          unfold opOfS
          rw [show hd (ws, wr) = x from HX.out, HKD.out, HG.out, HS1.out]
          simp [opOfM, st1, st2, st4, st8, st16, st32, h1_1, h1_2, h1_4, h1_8, h1_16, h1_32, HR1.out]
        rw [ho]
        exact ⟨rfl, h3, h4⟩
      · go_wp2_with (first
          | (go_at_call 95; ((with_reducible refine (has_at (f := 1) (b := true) h33_1 cN).mono ?_); rintro e wx ⟨rfl, rfl⟩))
          | (go_at_call 95; ((with_reducible refine (has_at (f := 2) (b := false) h33_2 cN).mono ?_); rintro e wx ⟨rfl, rfl⟩))
          | (go_at_call 95; ((with_reducible refine (has_at (f := 4) (b := false) h33_4 cN).mono ?_); rintro e wx ⟨rfl, rfl⟩))
          | (go_at_call 95; ((with_reducible refine (has_at (f := 8) (b := false) h33_8 cN).mono ?_); rintro e wx ⟨rfl, rfl⟩))
          | (go_at_call 95; ((with_reducible refine (has_at (f := 16) (b := false) h33_16 cN).mono ?_); rintro e wx ⟨rfl, rfl⟩))
          | (go_at_call 95; ((with_reducible refine (has_at (f := 32) (b := true) h33_32 cN).mono ?_); rintro e wx ⟨rfl, rfl⟩))
          | (go_at_call 96; ((with_reducible refine (lnat_x b g (s1) _ HA.gat.line (fun _ k => hE HA k)).mono ?_); rintro e wx ⟨r1, d1, hr1, rfl, hlx, hgx⟩; replace HA := HA.took (s' := adv (s1) d1) hlx hgx; clear hlx hgx cN; have HR1 := Lib.hid hr1; clear hr1; have cF1 : wx.cell? ⟨w.heap.size + 1, 1, none⟩ = _ := HA.gat.box.cell 1; have fF1 := HA.gat.box.frozen 1; replace HA := HA.field 1 (.int .u64 (r1 : Int)) { opZero with kind := kd, n := r1 } (by omega) rfl; have cN := HA.nam.cell 0))
          | (go_at_call 69; ((with_reducible refine (lint_x b g (adv (s1) d1) _ HA.gat.line (fun _ k => hE HA k)).mono ?_); rintro e wx ⟨r32, d32, hr32, rfl, hlx, hgx⟩; replace HA := HA.took (s' := adv (adv (s1) d1) d32) hlx hgx; clear hlx hgx cN; have HR32 := Lib.hid hr32; clear hr32; have cF32 : wx.cell? ⟨w.heap.size + 1, 5, none⟩ = _ := HA.gat.box.cell 5; have fF32 := HA.gat.box.frozen 5; replace HA := HA.field 5 (.int .i64 r32) { opZero with kind := kd, n := r1, level := r32 } (by omega) rfl; have cN := HA.nam.cell 0))
          | (refine wpList_load_row rfl 34 _ rfl (w.heap.size + 1) rfl 34 _ (0, 0) _ HA.gat.box Tryz.underlying34 rfl infoOp ?_)
          | (refine wpList_store_row rfl 34 _ _ rfl w.heap.size _ rfl rfl 34 _ HA.gat.res infoOp rfl (opCells_one _) ?_))
        obtain ⟨h1, h2, h3, h4⟩ := HA.fin (.deferred none)
        refine ⟨by simp, .inl ⟨_, _, rfl, run_takeDeferred h1, ?_⟩⟩
        refine ⟨_, results_cell_row rfl _ _ w.heap.size 34 _ (0, 0) _ rfl h2 Tryz.underlying34 rfl infoOp, ?_⟩
        have ho : opOfS (ws, wr) = ({ opZero with kind := kd, n := r1, level := r32 }, adv (adv (s1) d1) d32) := by
          unfold opOfS
          rw [show hd (ws, wr) = x from HX.out, HKD.out, HG.out, HS1.out]
          simp [opOfM, st1, st2, st4, st8, st16, st32, h33_1, h33_2, h33_4, h33_8, h33_16, h33_32, HR1.out, HR32.out]
        rw [ho]
        exact ⟨rfl, h3, h4⟩
      · go_wp2_with (first
          | (go_at_call 95; ((with_reducible refine (has_at (f := 1) (b := false) h34_1 cN).mono ?_); rintro e wx ⟨rfl, rfl⟩))
          | (go_at_call 95; ((with_reducible refine (has_at (f := 2) (b := true) h34_2 cN).mono ?_); rintro e wx ⟨rfl, rfl⟩))
          | (go_at_call 95; ((with_reducible refine (has_at (f := 4) (b := false) h34_4 cN).mono ?_); rintro e wx ⟨rfl, rfl⟩))
          | (go_at_call 95; ((with_reducible refine (has_at (f := 8) (b := false) h34_8 cN).mono ?_); rintro e wx ⟨rfl, rfl⟩))
          | (go_at_call 95; ((with_reducible refine (has_at (f := 16) (b := false) h34_16 cN).mono ?_); rintro e wx ⟨rfl, rfl⟩))
          | (go_at_call 95; ((with_reducible refine (has_at (f := 32) (b := true) h34_32 cN).mono ?_); rintro e wx ⟨rfl, rfl⟩))
          | (go_at_call 96; ((with_reducible refine (lnat_x b g (s1) _ HA.gat.line (fun _ k => hE HA k)).mono ?_); rintro e wx ⟨r2, d2, hr2, rfl, hlx, hgx⟩; replace HA := HA.took (s' := adv (s1) d2) hlx hgx; clear hlx hgx cN; have HR2 := Lib.hid hr2; clear hr2; have cF2 : wx.cell? ⟨w.heap.size + 1, 6, none⟩ = _ := HA.gat.box.cell 6; have fF2 := HA.gat.box.frozen 6; replace HA := HA.field 6 (.int .u64 (r2 : Int)) { opZero with kind := kd, lsn := r2 } (by omega) rfl; have cN := HA.nam.cell 0))
          | (go_at_call 69; ((with_reducible refine (lint_x b g (adv (s1) d2) _ HA.gat.line (fun _ k => hE HA k)).mono ?_); rintro e wx ⟨r32, d32, hr32, rfl, hlx, hgx⟩; replace HA := HA.took (s' := adv (adv (s1) d2) d32) hlx hgx; clear hlx hgx cN; have HR32 := Lib.hid hr32; clear hr32; have cF32 : wx.cell? ⟨w.heap.size + 1, 5, none⟩ = _ := HA.gat.box.cell 5; have fF32 := HA.gat.box.frozen 5; replace HA := HA.field 5 (.int .i64 r32) { opZero with kind := kd, lsn := r2, level := r32 } (by omega) rfl; have cN := HA.nam.cell 0))
          | (refine wpList_load_row rfl 34 _ rfl (w.heap.size + 1) rfl 34 _ (0, 0) _ HA.gat.box Tryz.underlying34 rfl infoOp ?_)
          | (refine wpList_store_row rfl 34 _ _ rfl w.heap.size _ rfl rfl 34 _ HA.gat.res infoOp rfl (opCells_one _) ?_))
        obtain ⟨h1, h2, h3, h4⟩ := HA.fin (.deferred none)
        refine ⟨by simp, .inl ⟨_, _, rfl, run_takeDeferred h1, ?_⟩⟩
        refine ⟨_, results_cell_row rfl _ _ w.heap.size 34 _ (0, 0) _ rfl h2 Tryz.underlying34 rfl infoOp, ?_⟩
        have ho : opOfS (ws, wr) = ({ opZero with kind := kd, lsn := r2, level := r32 }, adv (adv (s1) d2) d32) := by
          unfold opOfS
          rw [show hd (ws, wr) = x from HX.out, HKD.out, HG.out, HS1.out]
          simp [opOfM, st1, st2, st4, st8, st16, st32, h34_1, h34_2, h34_4, h34_8, h34_16, h34_32, HR2.out, HR32.out]
        rw [ho]
        exact ⟨rfl, h3, h4⟩
end Go.Proofs.YtgplaeopcejmoaaGreatDoor
